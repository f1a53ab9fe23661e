/- strings.Repeat at this program. Conditions: none. -/
import Derived.Shelf.Strings.Repeat
import Derived.Test.YtihofndbgpmloaaGreatDoorSHL
set_option linter.all false
namespace Go.Proofs
open Go.Shelf
def Tryz.laysRepeat_ren:Go.Shelf.Ren:=⟨fun|105=>182|212=>219|99=>187|165=>220|166=>183|170=>221|169=>184|263=>243|264=>198|206=>224|240=>222|241=>244|276=>245|277=>263|n=>n,fun|9=>9|3=>3|4=>4|20=>20|0=>0|46=>244|109=>245|5=>5|72=>217|76=>220|51=>263|146=>264|53=>208|148=>226|70=>214|37=>215|75=>219|127=>248|164=>266|80=>175|n=>n,λn=>n⟩
theorem Tryz.laysRepeat:Go.Proofs.Lays.n105 Tryz.prog Tryz.laysRepeat_ren:=by repeat' first|kernel_rfl|(intro w;kernel_rfl)|decide|constructor
theorem Tryz.extraRepeat:Builder.Extra Tryz.prog Tryz.laysRepeat_ren:=by repeat' first|kernel_rfl|(intro w;kernel_rfl)|decide|constructor
end Go.Proofs
