/- The evaluator with sums told. -/
import Derived.Test.YtgmhnpfpmcccnaaGreatDoorSu0
import Derived.Test.YtgmhnpfpmcccnaaGreatDoorSu1
import Derived.Test.YtgmhnpfpmcccnaaGreatDoorSu2
import Derived.Test.YtgmhnpfpmcccnaaGreatDoorSu3
set_option linter.all false
set_option maxRecDepth 100000
namespace Go.Proofs.YtgmhnpfpmcccnaaGreatDoor
open Go Go.Ev Go.RowKit Go.ChangeShapes Go.WideShapes Go.ChangeMaps
def extS0 : Ext := tabExt tab0 extL
theorem extS0_ok : ExtOk C0.P extS0 := tabExt_ok mixed extL_ok mext0 extL_ok (fun x hx => by simpa using List.all_eq_true.1 tab0_name x hx) tab0_told
def extS1 : Ext := tabExt tab1 extS0
theorem extS1_ok : ExtOk C0.P extS1 := tabExt_ok mixed extL_ok mext0 extS0_ok (fun x hx => by simpa using List.all_eq_true.1 tab1_name x hx) tab1_told
def extS2 : Ext := tabExt tab2 extS1
theorem extS2_ok : ExtOk C0.P extS2 := tabExt_ok mixed extL_ok mext0 extS1_ok (fun x hx => by simpa using List.all_eq_true.1 tab2_name x hx) tab2_told
def extS3 : Ext := tabExt tab3 extS2
theorem extS3_ok : ExtOk C0.P extS3 := tabExt_ok mixed extL_ok mext0 extS2_ok (fun x hx => by simpa using List.all_eq_true.1 tab3_name x hx) tab3_told
def ext0 : Ext := extS3
theorem ext0_ok : ExtOk C0.P ext0 := extS3_ok
end Go.Proofs.YtgmhnpfpmcccnaaGreatDoor
