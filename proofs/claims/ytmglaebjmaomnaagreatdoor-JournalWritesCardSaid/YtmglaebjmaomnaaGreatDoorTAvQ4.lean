/- Ways that meet, memory being az it was. No condition. -/
import Derived.Test.YtmglaebjmaomnaaGreatDoorTAvQ3
set_option linter.unusedSimpArgs false
set_option linter.unusedVariables false
namespace Go.Av
end Go.Av
