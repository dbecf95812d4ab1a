-- WRITTEN BY handprint.py, this session's program round the kit's print.py
import Derived.Test.YtlbmnajmjaalfaaDoorPx0
import Derived.Test.YtlbmnajmjaalfaaDoorPx1
import Derived.Test.YtlbmnajmjaalfaaDoorPx2
import Derived.Test.YtlbmnajmjaalfaaDoorPx3
import Derived.Test.YtlbmnajmjaalfaaDoorPx4
import Derived.Test.YtlbmnajmjaalfaaDoorPx5
import Derived.Test.YtlbmnajmjaalfaaDoorPx6
import Derived.Test.YtlbmnajmjaalfaaDoorPx7
namespace Go.Proofs.YtlbmnajmjaalfaaDoor.P
open Go.RowKit Go.Proofs.YtlbmnajmjaalfaaDoorW.PrintWords Go.Proofs.YtlbmnajmjaalfaaDoorW.PrintLast Go.Proofs.YtlbmnajmjaalfaaDoorW.PrintMore Go.Proofs.YtlbmnajmjaalfaaDoorW.Mine
attribute [local go_sem] max2_int min2_int max_two min_two max_three min_three max_four min_four   -- for this text's walks alone
set_option linter.unusedVariables false
set_option linter.unusedSimpArgs false

end Go.Proofs.YtlbmnajmjaalfaaDoor.P
