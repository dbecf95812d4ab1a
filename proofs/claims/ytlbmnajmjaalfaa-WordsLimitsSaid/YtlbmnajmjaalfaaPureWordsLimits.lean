/- The statement WordsLimits over lists and numbers. Conditions: none but the statement's own. -/
import Derived.Test.YtlbmnajmjaalfaaUZ
namespace Go.Proofs.Ytlbmnajmjaalfaa.Pure
theorem WordsLimits : P.soundservicelaw02_WordsLimits.Pure := U.WordsLimits_pure
end Go.Proofs.Ytlbmnajmjaalfaa.Pure
