/- Calls whose answer the machine gives. -/
import Derived.Test.YtmkndicbddahgaaDoorHearthO1
import Derived.Test.YtmkndicbddahgaaDoorHearthE
open Go Go.Ai Go.Proofs
set_option maxRecDepth 100000
set_option Elab.async false
namespace Go.Ai.AwHearth
theorem o26 : entOK (orO (oracle []) O2) AwHearthK.FT 100000 AwHearthE.e26 = true := by kernel_rfl
theorem k26 : Known (ckRel tt) Tryd.prog AwHearthE.e26 := .of hT hm hFT (.nil) hO2 o26
theorem o27 : entOK (orO (oracle [AwHearthE.e26]) O2) AwHearthK.FT 100000 AwHearthE.e27 = true := by kernel_rfl
theorem k27 : Known (ckRel tt) Tryd.prog AwHearthE.e27 := .of hT hm hFT (.cons k26 <| .nil) hO2 o27
theorem o28 : entOK (orO (oracle [AwHearthE.e27]) O2) AwHearthK.FT 100000 AwHearthE.e28 = true := by kernel_rfl
theorem k28 : Known (ckRel tt) Tryd.prog AwHearthE.e28 := .of hT hm hFT (.cons k27 <| .nil) hO2 o28
theorem o29 : entOK (orO (oracle [AwHearthE.e28]) O2) AwHearthK.FT 100000 AwHearthE.e29 = true := by kernel_rfl
theorem k29 : Known (ckRel tt) Tryd.prog AwHearthE.e29 := .of hT hm hFT (.cons k28 <| .nil) hO2 o29
theorem o30 : entOK (orO (oracle [AwHearthE.e29]) O2) AwHearthK.FT 100000 AwHearthE.e30 = true := by kernel_rfl
theorem k30 : Known (ckRel tt) Tryd.prog AwHearthE.e30 := .of hT hm hFT (.cons k29 <| .nil) hO2 o30
end Go.Ai.AwHearth
