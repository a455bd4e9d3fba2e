/- Plain laws: what a region leaves of a box (the reference), draws. -/
import Derived.Test.YtadlmencjbangaaDoorPlAN
namespace Go.PF.F
open Go Go.PF

theorem BH_hasB {s : List (List Span)} (h : s.length = 4) {p : Packet} : BH ⟨s⟩ p ↔ hasB s (pf p) := BH_iff (b := ⟨s⟩) h
end Go.PF.F
