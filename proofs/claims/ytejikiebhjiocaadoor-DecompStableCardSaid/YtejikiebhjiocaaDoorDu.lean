/- The texts read as these rows. -/
import Derived.Test.YtejikiebhjiocaaDoorDt
set_option linter.unusedVariables false
set_option linter.unusedSimpArgs false
namespace Go.Proofs.YtejikiebhjiocaaDoor
set_option maxRecDepth 100000
noncomputable def clsTxt : List UInt8 := classesBA.data.toList
noncomputable def prTxt : List UInt8 := pairsBA.data.toList
noncomputable def sgTxt : List UInt8 := singlesBA.data.toList
theorem clsTxt_rows : clsRows clsTxt = clsLit := by kernel_rfl
theorem prTxt_rows : prRows prTxt = prLit := by kernel_rfl
theorem sgTxt_rows : sgRows sgTxt = sgLit := by kernel_rfl
theorem clsTxt_le : clsTxt.length ≤ 1000000 := of_decide_eq_true (by kernel_rfl)
theorem prTxt_le : prTxt.length ≤ 1000000 := of_decide_eq_true (by kernel_rfl)
theorem sgTxt_le : sgTxt.length ≤ 1000000 := of_decide_eq_true (by kernel_rfl)
theorem clsTxt_ascii : clsTxt.all (fun b => Nat.ble b.toNat 127) = true := by kernel_rfl
theorem prTxt_ascii : prTxt.all (fun b => Nat.ble b.toNat 127) = true := by kernel_rfl
theorem sgTxt_ascii : sgTxt.all (fun b => Nat.ble b.toNat 127) = true := by kernel_rfl
end Go.Proofs.YtejikiebhjiocaaDoor
