-- WRITTEN BY handprint.py, this session's program round the kit's print.py
import Derived.Test.YteiboagmpgffaaaDoorPx0
import Derived.Test.YteiboagmpgffaaaDoorPx1
import Derived.Test.YteiboagmpgffaaaDoorPx2
import Derived.Test.YteiboagmpgffaaaDoorPx3
import Derived.Test.YteiboagmpgffaaaDoorPx4
import Derived.Test.YteiboagmpgffaaaDoorPx5
namespace Go.Proofs.YteiboagmpgffaaaDoor.P
open Go.RowKit Go.Proofs.YteiboagmpgffaaaDoorW.PrintWords Go.Proofs.YteiboagmpgffaaaDoorW.PrintLast Go.Proofs.YteiboagmpgffaaaDoorW.PrintMore Go.Proofs.YteiboagmpgffaaaDoorW.Mine
attribute [local go_sem] max2_int min2_int max_two min_two max_three min_three max_four min_four   -- for this text's walks alone
set_option linter.unusedVariables false
set_option linter.unusedSimpArgs false

end Go.Proofs.YteiboagmpgffaaaDoor.P
