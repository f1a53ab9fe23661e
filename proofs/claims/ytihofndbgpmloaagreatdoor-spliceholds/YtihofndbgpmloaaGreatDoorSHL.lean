/- The library's contracts at this program (strconv.Atoi, strconv.Itoa, strings.Trim), in plain words. Conditions: none. -/
import Derived.Shelf.Strconv.Itoa3
import Derived.Shelf.Strconv.Atoi
import Derived.Shelf.Strings.SlTrimAscii
import Derived.Ground.NamesProg
import Derived.Test.YtihofndbgpmloaaGreatDoorLB0
set_option linter.all false
namespace Go.Proofs
open Go.Shelf
def Tryz.laysAtoi_ren:Go.Shelf.Ren:=⟨fun|172=>189|244=>226|245=>227|247=>250|279=>251|280=>252|281=>253|282=>254|287=>266|316=>267|171=>178|205=>268|321=>274|322=>275|243=>212|246=>238|283=>239|284=>240|285=>241|286=>242|129=>236|317=>259|318=>260|319=>261|320=>262|337=>272|338=>273|n=>n,fun|9=>9|3=>3|75=>219|76=>220|4=>4|5=>5|167=>270|37=>215|0=>0|85=>271|2=>2|168=>273|53=>208|175=>286|46=>244|210=>290|127=>248|145=>297|143=>295|21=>21|171=>259|173=>261|212=>281|51=>263|20=>20|213=>282|232=>303|233=>304|80=>175|n=>n,fun|15=>4|16=>5|17=>3|18=>8|19=>9|n=>n⟩
theorem Tryz.laysAtoi:Go.Proofs.Lays.n172 Tryz.prog Tryz.laysAtoi_ren:=by repeat' first|kernel_rfl|(intro w;kernel_rfl)|constructor
def Tryz.laysTrim_ren:Go.Shelf.Ren:=⟨fun|160=>193|232=>229|231=>228|227=>230|234=>232|233=>231|236=>234|235=>233|228=>255|271=>258|151=>257|197=>256|120=>271|152=>270|260=>269|137=>276|119=>277|224=>248|225=>247|217=>246|266=>264|n=>n,fun|9=>9|4=>4|3=>3|5=>5|117=>254|116=>253|0=>0|124=>257|21=>21|105=>277|46=>244|119=>298|139=>301|138=>300|n=>n,fun|3=>6|4=>7|n=>n⟩
theorem Tryz.laysTrim:Go.Proofs.Lays.n160 Tryz.prog Tryz.laysTrim_ren:=by repeat' first|kernel_rfl|(intro w;kernel_rfl)|constructor
def Tryz.laysItoa_ren:Go.Shelf.Ren:=⟨fun|171=>178|243=>212|246=>238|283=>239|284=>240|285=>241|286=>242|129=>236|317=>259|318=>260|319=>261|320=>262|337=>272|338=>273|n=>n,fun|3=>3|9=>9|2=>2|4=>4|171=>259|0=>0|53=>208|37=>215|5=>5|173=>261|212=>281|51=>263|20=>20|213=>282|46=>244|232=>303|233=>304|n=>n,fun|17=>3|18=>8|19=>9|n=>n⟩
theorem Tryz.laysItoa:Go.Proofs.LaysM.n171 Tryz.prog Tryz.laysItoa_ren:=by repeat' first|kernel_rfl|(intro w;kernel_rfl)|constructor
end Go.Proofs
