/- Sums, signs, absolute values of fractions. Conditions: none. -/
import Derived.Test.YtihofndbgpmloaaGreatDoorNB
set_option linter.all false
namespace Go.Sv
def sgR(q:Rat):Int:=if q=0 then 0 else if q.num<0 then-1 else 1
end Go.Sv
