/-
  CompareNames: the row. Own work.
-/
import Derived.Test.YtlhmdnniolhnjaaQp
import Derived.Test.YtlhmdnniolhnjaaRy
namespace Go.Proofs.Ytlhmdnniolhnjaa
open Go

theorem compareNames_holds : Rows.CompareNamesUptoSaid := compareNames_row fun _ _ h h' => PL.F4_run h h'

#print axioms compareNames_holds
end Go.Proofs.Ytlhmdnniolhnjaa
