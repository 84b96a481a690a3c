/-
  YthepfpiphlfgnaaGreatBl: Below and Apart, of the program and of the reference.
-/
import Derived.Test.YthepfpiphlfgnaaGreatPk
import Derived.Test.YthepfpiphlfgnaaGreatRep
import Derived.Test.YthepfpiphlfgnaaGreatHS
namespace Go.Proofs.YthepfpiphlfgnaaGreat
open Go.RowKit



/-! ### What they say -/




/-! ### Apart -/





end Go.Proofs.YthepfpiphlfgnaaGreat
