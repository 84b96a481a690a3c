/-
  YthepfpiphlfgnaaPq: the texts Pu, Pr, Ps, Pt, Pf, Pg in one file.
-/
import Derived.Test.YthepfpiphlfgnaaFm
import Derived.Test.YthepfpiphlfgnaaFd3
import Derived.Test.YthepfpiphlfgnaaPv

/-
  YthepfpiphlfgnaaPu: pushes: what they do, and the program's push, run, PushRun, PushOne.
-/
namespace Go.Proofs.Ythepfpiphlfgnaa
open Go.RowKit





end Go.Proofs.Ythepfpiphlfgnaa

/-
  YthepfpiphlfgnaaPr: PushRun and PushOne of the program, PushOne of the reference.
-/
namespace Go.Proofs.Ythepfpiphlfgnaa
open Go.RowKit




end Go.Proofs.Ythepfpiphlfgnaa

/-
  YthepfpiphlfgnaaPs: PushOne of the reference.
-/
namespace Go.Proofs.Ythepfpiphlfgnaa
open Go.RowKit



end Go.Proofs.Ythepfpiphlfgnaa

/-
  YthepfpiphlfgnaaPt: PushRun of the reference.
-/
namespace Go.Proofs.Ythepfpiphlfgnaa
open Go.RowKit



end Go.Proofs.Ythepfpiphlfgnaa

/-
  YthepfpiphlfgnaaPf: PushesFrom of the program.
-/
namespace Go.Proofs.Ythepfpiphlfgnaa
open Go.RowKit




end Go.Proofs.Ythepfpiphlfgnaa

/-
  YthepfpiphlfgnaaPg: PushesFrom of the program and of the reference, any input.
-/
namespace Go.Proofs.Ythepfpiphlfgnaa
open Go.RowKit







end Go.Proofs.Ythepfpiphlfgnaa
