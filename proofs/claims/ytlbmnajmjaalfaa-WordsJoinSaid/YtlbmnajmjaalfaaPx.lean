-- WRITTEN BY handprint.py, this session's program round the kit's print.py
import Derived.Test.YtlbmnajmjaalfaaPx0
import Derived.Test.YtlbmnajmjaalfaaPx1
import Derived.Test.YtlbmnajmjaalfaaPx2
import Derived.Test.YtlbmnajmjaalfaaPx3
import Derived.Test.YtlbmnajmjaalfaaPx4
import Derived.Test.YtlbmnajmjaalfaaPx5
import Derived.Test.YtlbmnajmjaalfaaPx6
import Derived.Test.YtlbmnajmjaalfaaPx7
import Derived.Test.YtlbmnajmjaalfaaPx8
import Derived.Test.YtlbmnajmjaalfaaPx9
namespace Go.Proofs.Ytlbmnajmjaalfaa.P
open Go.RowKit Go.Proofs.YtlbmnajmjaalfaaW.PrintWords Go.Proofs.YtlbmnajmjaalfaaW.PrintLast Go.Proofs.YtlbmnajmjaalfaaW.PrintMore Go.Proofs.YtlbmnajmjaalfaaW.Mine
attribute [local go_sem] max2_int min2_int max_two min_two max_three min_three max_four min_four   -- for this text's walks alone
set_option linter.unusedVariables false
set_option linter.unusedSimpArgs false

end Go.Proofs.Ytlbmnajmjaalfaa.P
