/-
  A contract of a call that returns alone is one of a call that leaves others at most leaving: for rows of a seat in which some function starts goroutines. Conditions: none; nothing here names the program.
-/
import Derived.Conc.Holds
import Derived.Handed
namespace Go.Dam
open Go
theorem leaving_of_quiet {P : Program} {m : Machine} (h : m.quiet) : m.OnlyLeaving P := by
  refine ⟨fun g hg => ⟨0, ?_⟩, h.2⟩
  have := List.all_eq_true.1 h.1 g hg
  show g.status = .finished
  simpa using this
theorem leaving_of_handed {a : Assume} {C : Checked} {os : Os} {f : FuncId} {r : Reach} {Pre : World → Array Value → Prop} {Post : World → Array Value → Value → World → Prop}
    (h : ReturnsInHanded a C os f r Pre Post) : ReturnsInLeavingWide a C os f r Pre Post := fun enter => by
  obtain ⟨h0, h1, h2, h3, h4⟩ := h enter
  refine ⟨h0, h1, h2, h3, fun w tape i hf => ?_⟩
  obtain ⟨n, v, w', hn, hc, hr, hp, ⟨j, last, hj, hs, hq, hh, he⟩, ha⟩ := h4 w tape i hf
  exact ⟨n, v, w', hn, hc, hr, hp, ⟨j, last, hj, hs, hh, leaving_of_quiet hq, he⟩, ha⟩
end Go.Dam
