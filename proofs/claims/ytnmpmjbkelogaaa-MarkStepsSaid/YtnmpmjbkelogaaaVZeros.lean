import Derived.Test.YtnmpmjbkelogaaaVApart
import Derived.Test.YtnmpmjbkelogaaaVArr
namespace Go.Proofs.YtnmpmjbkelogaaaW.PrintWords
open Go.RowKit
end Go.Proofs.YtnmpmjbkelogaaaW.PrintWords
