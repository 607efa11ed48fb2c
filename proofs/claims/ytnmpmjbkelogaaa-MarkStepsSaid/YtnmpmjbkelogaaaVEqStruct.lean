import Derived.Test.YtnmpmjbkelogaaaVWords
import Derived.Laws.StructEq
namespace Go.Proofs.YtnmpmjbkelogaaaW.PrintWords
open Go.RowKit
end Go.Proofs.YtnmpmjbkelogaaaW.PrintWords
