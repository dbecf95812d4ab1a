/- The statement WordsSplit over lists and numbers. Conditions: none but the statement's own. -/
import Derived.Test.YtlbmnajmjaalfaaUY
namespace Go.Proofs.Ytlbmnajmjaalfaa.Pure
theorem WordsSplit : P.soundservicelaw02_WordsSplit.Pure := U.WordsSplit_pure
end Go.Proofs.Ytlbmnajmjaalfaa.Pure
