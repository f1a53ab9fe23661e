/- The library's contracts at this program (strconv.Atoi, strconv.Itoa, strings.Trim), in plain words. Conditions: none. -/
import Derived.Shelf.Strconv.Itoa3
import Derived.Shelf.Strconv.Atoi
import Derived.Shelf.Strings.SlTrimAscii
import Derived.Ground.NamesProg
import Derived.Test.YtbegpnhghineiaaGreatDoorLB0
set_option linter.all false
namespace Go.Proofs
open Go.Shelf
def Tryz.laysAtoi_ren:Go.Shelf.Ren:=⟨fun|172=>140|244=>186|245=>187|247=>210|279=>211|280=>212|281=>213|282=>214|287=>227|316=>228|171=>196|205=>229|321=>240|322=>241|243=>216|246=>230|283=>231|284=>232|285=>233|286=>234|129=>215|317=>242|318=>243|319=>244|320=>245|337=>247|338=>248|n=>n,fun|9=>9|3=>3|75=>166|76=>167|4=>4|5=>5|167=>222|37=>214|0=>0|85=>223|2=>2|168=>225|53=>174|175=>235|46=>203|210=>239|127=>230|145=>257|143=>255|21=>21|171=>242|173=>244|212=>259|51=>231|20=>20|213=>260|232=>264|233=>265|80=>181|n=>n,fun|15=>3|16=>4|17=>7|18=>8|19=>9|n=>n⟩
theorem Tryz.laysAtoi:Go.Proofs.Lays.n172 Tryz.prog Tryz.laysAtoi_ren:=by repeat' first|kernel_rfl|(intro w;kernel_rfl)|constructor
def Tryz.laysTrim_ren:Go.Shelf.Ren:=⟨fun|160=>136|232=>179|231=>178|227=>180|234=>182|233=>181|236=>184|235=>183|228=>206|271=>209|151=>208|197=>207|120=>226|152=>225|260=>224|137=>238|119=>239|224=>204|225=>203|217=>202|266=>222|n=>n,fun|9=>9|4=>4|3=>3|5=>5|117=>198|116=>197|0=>0|124=>201|21=>21|105=>219|46=>203|119=>249|139=>252|138=>251|n=>n,fun|3=>5|4=>6|n=>n⟩
theorem Tryz.laysTrim:Go.Proofs.Lays.n160 Tryz.prog Tryz.laysTrim_ren:=by repeat' first|kernel_rfl|(intro w;kernel_rfl)|constructor
def Tryz.laysItoa_ren:Go.Shelf.Ren:=⟨fun|171=>196|243=>216|246=>230|283=>231|284=>232|285=>233|286=>234|129=>215|317=>242|318=>243|319=>244|320=>245|337=>247|338=>248|n=>n,fun|3=>3|9=>9|2=>2|4=>4|171=>242|0=>0|53=>174|37=>214|5=>5|173=>244|212=>259|51=>231|20=>20|213=>260|46=>203|232=>264|233=>265|n=>n,fun|17=>7|18=>8|19=>9|n=>n⟩
theorem Tryz.laysItoa:Go.Proofs.LaysM.n171 Tryz.prog Tryz.laysItoa_ren:=by repeat' first|kernel_rfl|(intro w;kernel_rfl)|constructor
end Go.Proofs
