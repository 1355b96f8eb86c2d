/- auto: what the rows' list of the library's tables gives. -/
import Derived.Test.YtpkicfcnhgnejaaDoorAuW
import Derived.Test.YtpkicfcnhgnejaaDoorRows
import Derived.Lib.LaidU8
namespace Go.Proofs
open Go Go.Sh
set_option maxRecDepth 100000
theorem acc_eq : (YtpkicfcnhgnejaaDoor.Rows.laid_unicode_utf8_acceptRanges : DataW Unit) = Lib.acceptData := by kernel_rfl
theorem first_eq : YtpkicfcnhgnejaaDoor.Rows.laid_unicode_utf8_first = Lib.firstData := by kernel_rfl
theorem u8_laid {w : World} (hL : laidMet Tryd.prog [("unicode/utf8.acceptRanges", YtpkicfcnhgnejaaDoor.Rows.laid_unicode_utf8_acceptRanges), ("unicode/utf8.first", YtpkicfcnhgnejaaDoor.Rows.laid_unicode_utf8_first)] w) : U8 w.heap := by
  have t : Lib.Utf8Tabs 0 1 w := utf8Tabs_of_reads Tryd.lays260 ⟨by kernel_rfl, by kernel_rfl, by kernel_rfl, by kernel_rfl, by kernel_rfl, by kernel_rfl, by kernel_rfl⟩
    (by rw [← first_eq]; exact Lib.laidMet.reads hL (.tail _ (.head _))) (by rw [← acc_eq]; exact Lib.laidMet.reads hL (.head _))
  exact ⟨fun c hc => by rw [← cell_eq]; exact t.1 c hc, fun i hi => ⟨by rw [← cell_eq]; exact (t.2 i hi).1, by rw [← cell_eq]; exact (t.2 i hi).2⟩⟩
end Go.Proofs
