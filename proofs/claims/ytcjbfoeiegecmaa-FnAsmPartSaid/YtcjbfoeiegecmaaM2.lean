import Derived.Test.YtcjbfoeiegecmaaM1
/- The parts of a talk as the program lays them: one list a message. -/
namespace Go.Cap
set_option linter.unusedVariables false
set_option linter.unusedSimpArgs false

/-- The counters of a side's streams. -/
def cnt (f : List Data) : List AV := [.i (ssnIn f 0), .i (ssnIn f 1), .i (ssnIn f 2), .i (ssnIn f 3)]
def cnts (f g : List Data) : List AV := [.i (ssnIn f 0), .i (ssnIn f 1), .i (ssnIn f 2), .i (ssnIn f 3), .i (ssnIn g 0), .i (ssnIn g 1), .i (ssnIn g 2), .i (ssnIn g 3)]
end Go.Cap
