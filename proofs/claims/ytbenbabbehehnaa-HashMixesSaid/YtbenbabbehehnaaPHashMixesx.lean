/- Functions of the given program as plain Lean functions, and the proofs that the calls do so: written by a program of this session (a turned copy of the print tool). -/
import Derived.Test.YtbenbabbehehnaaPHashMixesx0
import Derived.Test.YtbenbabbehehnaaPHashMixesx1
import Derived.Test.YtbenbabbehehnaaPHashMixesx2
namespace Go.Proofs.Ytbenbabbehehnaa.PHashMixes
open Go.RowKit Go.Proofs.YtbenbabbehehnaaW.PrintWords Go.Proofs.YtbenbabbehehnaaW.PrintLast Go.Proofs.YtbenbabbehehnaaW.PrintMore
attribute [local go_sem] max2_int min2_int max_two min_two max_three min_three max_four min_four   -- for this text's walks alone
set_option linter.unusedVariables false
set_option linter.unusedSimpArgs false

end Go.Proofs.Ytbenbabbehehnaa.PHashMixes
