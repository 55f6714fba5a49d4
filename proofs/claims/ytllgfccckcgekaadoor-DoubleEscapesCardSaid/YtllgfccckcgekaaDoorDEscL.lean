/- DoubleEscapes from what its row lists. Condition: the row's own list. -/
import Derived.Test.YtllgfccckcgekaaDoorDEsc
import Derived.Test.YtllgfccckcgekaaDoorCards
import Derived.Lib.LaidU8T
namespace Go.Proofs.YtllgfccckcgekaaDoor
set_option maxRecDepth 100000
set_option maxHeartbeats 4000000
open Go.RowKit

theorem first_is : Lib.firstData = Rows.laid_unicode_utf8_first := by kernel_rfl
theorem accept_is : Lib.acceptData = Rows.laid_unicode_utf8_acceptRanges := by kernel_rfl
theorem tabs_of {W : World} {l : List (String × DataW Unit)} (hL : laidMet Tryd.prog l W) (h1 : ("unicode/utf8.first", Rows.laid_unicode_utf8_first) ∈ l) (h2 : ("unicode/utf8.acceptRanges", Rows.laid_unicode_utf8_acceptRanges) ∈ l) : Lib.Utf8Tabs 1 2 W :=
  utf8Tabs_of_readsT (U8Types.of196 Tryd.lays196) ⟨by kernel_rfl, by kernel_rfl, by kernel_rfl, by kernel_rfl, by kernel_rfl, by kernel_rfl, by kernel_rfl⟩ (by rw [first_is]; exact Lib.laidMet.reads hL h1) (by rw [accept_is]; exact Lib.laidMet.reads hL h2)
theorem walk_doubleEscapesL (c : Int) (hc : 0 ≤ c ∧ c ≤ 255) (w : World) (hL : laidMetH Tryd.prog Rows.doubleEscapesRow.laid w) :
    Calls Tryd.prog 11 #[.int .u8 c] w fun e w' => e = .returned (.bool true) ∧ Below w.heap.size w w' := by
  have hL' : laidMet Tryd.prog Rows.doubleEscapesRow.laid w := hL
  exact walk_doubleEscapes c hc w (tabs_of hL' (by simp [Rows.doubleEscapesRow]) (by simp [Rows.doubleEscapesRow]))
end Go.Proofs.YtllgfccckcgekaaDoor
