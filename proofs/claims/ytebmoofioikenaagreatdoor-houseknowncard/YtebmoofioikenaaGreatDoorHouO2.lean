/- Calls whose answer the machine gives. -/
import Derived.Test.YtebmoofioikenaaGreatDoorHouO1
import Derived.Test.YtebmoofioikenaaGreatDoorHouE
open Go Go.Ai Go.Proofs
set_option maxRecDepth 100000
set_option Elab.async false
namespace Go.Ai.AwHou
theorem o5 : entOK (orO (oracle []) O2) AwHouK.FT 100000 AwHouE.e5 = true := by kernel_rfl
theorem k5 : Known (ckRel tt) Tryz.prog AwHouE.e5 := .of hT hm hFT (.nil) hO2 o5
end Go.Ai.AwHou
