/- strings.Repeat at this program. Conditions: none. -/
import Derived.Shelf.Strings.Repeat
import Derived.Test.YtbegpnhghineiaaGreatDoorSHL
set_option linter.all false
namespace Go.Proofs
open Go.Shelf
def Tryz.laysRepeat_ren:Go.Shelf.Ren:=⟨fun|105=>198|212=>218|99=>138|165=>219|166=>199|170=>220|169=>200|263=>235|264=>148|206=>176|240=>221|241=>236|276=>237|277=>246|n=>n,fun|9=>9|3=>3|4=>4|20=>20|0=>0|46=>203|109=>228|5=>5|72=>216|76=>167|51=>231|146=>232|53=>174|148=>175|70=>213|37=>214|75=>166|127=>230|164=>247|80=>181|n=>n,λn=>n⟩
theorem Tryz.laysRepeat:Go.Proofs.Lays.n105 Tryz.prog Tryz.laysRepeat_ren:=by repeat' first|kernel_rfl|(intro w;kernel_rfl)|decide|constructor
theorem Tryz.extraRepeat:Builder.Extra Tryz.prog Tryz.laysRepeat_ren:=by repeat' first|kernel_rfl|(intro w;kernel_rfl)|decide|constructor
end Go.Proofs
