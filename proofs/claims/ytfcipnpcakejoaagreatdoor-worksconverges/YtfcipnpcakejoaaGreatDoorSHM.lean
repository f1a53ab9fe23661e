/- strings.Repeat at this program. Conditions: none. -/
import Derived.Shelf.Strings.Repeat
import Derived.Test.YtfcipnpcakejoaaGreatDoorSHL
set_option linter.all false
namespace Go.Proofs
open Go.Shelf
def Tryz.laysRepeat_ren:Go.Shelf.Ren:=⟨fun|105=>207|212=>226|99=>156|165=>227|166=>208|170=>228|169=>209|263=>243|264=>166|206=>185|240=>229|241=>244|276=>245|277=>254|n=>n,fun|9=>9|3=>3|4=>4|20=>20|0=>0|46=>208|109=>233|5=>5|72=>221|76=>175|51=>236|146=>237|53=>182|148=>183|70=>218|37=>219|75=>174|127=>235|164=>252|80=>189|n=>n,λn=>n⟩
theorem Tryz.laysRepeat:Go.Proofs.Lays.n105 Tryz.prog Tryz.laysRepeat_ren:=by repeat' first|kernel_rfl|(intro w;kernel_rfl)|decide|constructor
theorem Tryz.extraRepeat:Builder.Extra Tryz.prog Tryz.laysRepeat_ren:=by repeat' first|kernel_rfl|(intro w;kernel_rfl)|decide|constructor
end Go.Proofs
