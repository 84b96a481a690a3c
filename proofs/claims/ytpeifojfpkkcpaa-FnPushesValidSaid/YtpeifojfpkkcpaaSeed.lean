/-
  YtpeifojfpkkcpaaSeed: what SeedNext returns, here and in the reference.
-/
import Derived.Test.YtpeifojfpkkcpaaWa
namespace Go.Proofs.Ytpeifojfpkkcpaa
open Go.RowKit




end Go.Proofs.Ytpeifojfpkkcpaa
