import Derived.Test.YtnmpmjbkelogaaaVWords
namespace Go.Proofs.YtnmpmjbkelogaaaW.PrintWords
open Go.RowKit
end Go.Proofs.YtnmpmjbkelogaaaW.PrintWords
