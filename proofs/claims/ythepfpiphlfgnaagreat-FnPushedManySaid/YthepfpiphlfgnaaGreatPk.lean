/-
  YthepfpiphlfgnaaGreatPk: one of two heights for each corner; equal lists.
-/
import Derived.Test.YthepfpiphlfgnaaGreatEx
import Derived.StillTailTactics
namespace Go.Proofs.YthepfpiphlfgnaaGreat
open Go.RowKit








end Go.Proofs.YthepfpiphlfgnaaGreat
