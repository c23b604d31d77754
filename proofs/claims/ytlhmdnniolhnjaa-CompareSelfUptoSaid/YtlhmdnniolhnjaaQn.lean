/-
  CompareSelf: the row. Own work.
-/
import Derived.Test.YtlhmdnniolhnjaaQm
import Derived.Test.YtlhmdnniolhnjaaRx
namespace Go.Proofs.Ytlhmdnniolhnjaa
open Go

theorem compareSelf_holds : Rows.CompareSelfUptoSaid := compareSelf_row fun _ a1 h _ => PL.F3_run h a1

#print axioms compareSelf_holds
end Go.Proofs.Ytlhmdnniolhnjaa
