/- A logic of what is known of memory, over the kit's weakest preconditions: one part. No conditions: lemmas. -/
import Derived.Test.YtbeolahmnoeicaaGreatDoorGLR
import Derived.Test.YtbeolahmnoeicaaGreatDoorGV
import Derived.Lib.LaidU8
import Derived.LaidMore
set_option linter.unusedVariables false
set_option linter.unusedSimpArgs false
namespace Go.Proofs.GL
open Go Go.Lib
section
variable {P : Program} {W : World}
end
end Go.Proofs.GL

