-- Written by a program of this session (wip/xprint.py, by way of the print): Lean functions and proofs that the Go functions come to them.
import Derived.Test.YtdjajecgojndfaaPrint0
import Derived.Test.YtdjajecgojndfaaPrint1
import Derived.Test.YtdjajecgojndfaaPrint2
import Derived.Test.YtdjajecgojndfaaPrint3
import Derived.Test.YtdjajecgojndfaaPrint4
import Derived.Test.YtdjajecgojndfaaPrint5
import Derived.Test.YtdjajecgojndfaaPrint6
import Derived.Test.YtdjajecgojndfaaPrint7
namespace Go.Proofs.Ytdjajecgojndfaa.Print
open Go.RowKit Go.Proofs.YtdjajecgojndfaaW.PrintWords Go.Proofs.YtdjajecgojndfaaW.PrintLast Go.Proofs.YtdjajecgojndfaaW.PrintMore
attribute [local go_sem] max2_int min2_int max_two min_two max_three min_three max_four min_four   -- for this text's walks alone
set_option linter.unusedVariables false
set_option linter.unusedSimpArgs false

end Go.Proofs.Ytdjajecgojndfaa.Print
