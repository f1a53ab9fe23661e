/- The library's contracts at this program (strconv.Atoi, strconv.Itoa, strings.Trim), in plain words. Conditions: none. -/
import Derived.Shelf.Strconv.Itoa3
import Derived.Shelf.Strconv.Atoi
import Derived.Shelf.Strings.SlTrimAscii
import Derived.Ground.NamesProg
import Derived.Test.YtfcipnpcakejoaaGreatDoorLB0
set_option linter.all false
namespace Go.Proofs
open Go.Shelf
def Tryz.laysAtoi_ren:Go.Shelf.Ren:=⟨fun|172=>158|244=>195|245=>196|247=>218|279=>219|280=>220|281=>221|282=>222|287=>235|316=>236|171=>205|205=>237|321=>248|322=>249|243=>224|246=>238|283=>239|284=>240|285=>241|286=>242|129=>223|317=>250|318=>251|319=>252|320=>253|337=>255|338=>256|n=>n,fun|9=>9|3=>3|75=>174|76=>175|4=>4|5=>5|167=>227|37=>219|0=>0|85=>228|2=>2|168=>230|53=>182|175=>240|46=>208|210=>244|127=>235|145=>262|143=>260|21=>21|171=>247|173=>249|212=>264|51=>236|20=>20|213=>265|232=>269|233=>270|80=>189|n=>n,fun|15=>3|16=>4|17=>7|18=>8|19=>9|n=>n⟩
theorem Tryz.laysAtoi:Go.Proofs.Lays.n172 Tryz.prog Tryz.laysAtoi_ren:=by repeat' first|kernel_rfl|(intro w;kernel_rfl)|constructor
def Tryz.laysTrim_ren:Go.Shelf.Ren:=⟨fun|160=>154|232=>188|231=>187|227=>189|234=>191|233=>190|236=>193|235=>192|228=>214|271=>217|151=>216|197=>215|120=>234|152=>233|260=>232|137=>246|119=>247|224=>212|225=>211|217=>210|266=>230|n=>n,fun|9=>9|4=>4|3=>3|5=>5|117=>203|116=>202|0=>0|124=>206|21=>21|105=>224|46=>208|119=>254|139=>257|138=>256|n=>n,fun|3=>5|4=>6|n=>n⟩
theorem Tryz.laysTrim:Go.Proofs.Lays.n160 Tryz.prog Tryz.laysTrim_ren:=by repeat' first|kernel_rfl|(intro w;kernel_rfl)|constructor
def Tryz.laysItoa_ren:Go.Shelf.Ren:=⟨fun|171=>205|243=>224|246=>238|283=>239|284=>240|285=>241|286=>242|129=>223|317=>250|318=>251|319=>252|320=>253|337=>255|338=>256|n=>n,fun|3=>3|9=>9|2=>2|4=>4|171=>247|0=>0|53=>182|37=>219|5=>5|173=>249|212=>264|51=>236|20=>20|213=>265|46=>208|232=>269|233=>270|n=>n,fun|17=>7|18=>8|19=>9|n=>n⟩
theorem Tryz.laysItoa:Go.Proofs.LaysM.n171 Tryz.prog Tryz.laysItoa_ren:=by repeat' first|kernel_rfl|(intro w;kernel_rfl)|constructor
end Go.Proofs
