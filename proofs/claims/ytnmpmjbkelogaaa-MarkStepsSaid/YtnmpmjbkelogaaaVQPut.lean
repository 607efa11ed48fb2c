import Derived.Test.YtnmpmjbkelogaaaVWords
import Derived.Test.YtnmpmjbkelogaaaVLast
namespace Go.Proofs.YtnmpmjbkelogaaaW.PrintWords
open Go.RowKit
end Go.Proofs.YtnmpmjbkelogaaaW.PrintWords
