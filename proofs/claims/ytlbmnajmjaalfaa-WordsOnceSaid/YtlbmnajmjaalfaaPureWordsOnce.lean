/- The statement WordsOnce over lists and numbers. Conditions: none but the statement's own. -/
import Derived.Test.YtlbmnajmjaalfaaUZ
namespace Go.Proofs.Ytlbmnajmjaalfaa.Pure
theorem WordsOnce : P.soundservicelaw02_WordsOnce.Pure := U.WordsOnce_pure
end Go.Proofs.Ytlbmnajmjaalfaa.Pure
