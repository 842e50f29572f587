/- The tied card of TopBird: for every input it returns true, and its argument reads afterwards as before; the two tables of math/bits are tied to the program's text. -/
import Derived.Test.YtifmekijdepokaaDoorTopBirdM7
import Derived.Test.YtifmekijdepokaaDoorTie
import Derived.Test.YtifmekijdepokaaDoorCards
import Derived.SevenTiedAt
namespace Go.Proofs.YtifmekijdepokaaDoor
open Go

theorem topBird_holds : Rows.TopBirdCardSaid :=
  Claim7.holds_tied_plain_at .later [] [.data, .data] true (true, "5b8cc682df03f279b851b15a8868e06cfb19c50076d9deae93c0748af5d197b6") false
    topBird_row (fun _ h => by cases h) (by kernel_rfl) (fun _ h => by cases h) topBird_row_tie rfl ⟨rfl, rfl⟩ (by kernel_rfl) rfl
    (fun f fn hf hfn => by
      obtain rfl : f = 4 := Option.some.inj ((show Tryd.prog.funcNamed "corrody/corrodytop.TopBird" = some 4 by kernel_rfl).symm.trans hf) |>.symm
      obtain rfl : fn = Tryd.f4 := (Option.some.inj (Tryd.func4.symm.trans hfn)).symm
      exact ⟨by kernel_rfl, fun j t ht => by
        rw [Tryd.params4] at ht
        have hm : t ∈ [46] := by simpa using Array.mem_of_getElem? ht
        have hall : ([46].all fun u => !Tryd.prog.wantsStandIn u) = true := by kernel_rfl
        exact (show Tryd.prog.wantsStandIn t = false by simpa using List.all_eq_true.1 hall t hm)⟩)
    (by kernel_rfl)
#print axioms topBird_holds
end Go.Proofs.YtifmekijdepokaaDoor
