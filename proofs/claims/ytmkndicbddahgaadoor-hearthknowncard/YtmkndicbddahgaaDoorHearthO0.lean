/- Calls whose answer the machine gives. -/
import Derived.Test.YtmkndicbddahgaaDoorHearthC
import Derived.Test.YtmkndicbddahgaaDoorHearthE
open Go Go.Ai Go.Proofs
set_option maxRecDepth 100000
set_option Elab.async false
namespace Go.Ai.AwHearth
theorem o0 : entOK (orO (oracle []) O2) AwHearthK.FT 100000 AwHearthE.e0 = true := by kernel_rfl
theorem k0 : Known (ckRel tt) Tryd.prog AwHearthE.e0 := .of hT hm hFT (.nil) hO2 o0
theorem o1 : entOK (orO (oracle []) O2) AwHearthK.FT 100000 AwHearthE.e1 = true := by kernel_rfl
theorem k1 : Known (ckRel tt) Tryd.prog AwHearthE.e1 := .of hT hm hFT (.nil) hO2 o1
theorem o2 : entOK (orO (oracle [AwHearthE.e1]) O2) AwHearthK.FT 100000 AwHearthE.e2 = true := by kernel_rfl
theorem k2 : Known (ckRel tt) Tryd.prog AwHearthE.e2 := .of hT hm hFT (.cons k1 <| .nil) hO2 o2
theorem o3 : entOK (orO (oracle []) O2) AwHearthK.FT 100000 AwHearthE.e3 = true := by kernel_rfl
theorem k3 : Known (ckRel tt) Tryd.prog AwHearthE.e3 := .of hT hm hFT (.nil) hO2 o3
theorem o4 : entOK (orO (oracle [AwHearthE.e3]) O2) AwHearthK.FT 100000 AwHearthE.e4 = true := by kernel_rfl
theorem k4 : Known (ckRel tt) Tryd.prog AwHearthE.e4 := .of hT hm hFT (.cons k3 <| .nil) hO2 o4
theorem o5 : entOK (orO (oracle [AwHearthE.e4]) O2) AwHearthK.FT 100000 AwHearthE.e5 = true := by kernel_rfl
theorem k5 : Known (ckRel tt) Tryd.prog AwHearthE.e5 := .of hT hm hFT (.cons k4 <| .nil) hO2 o5
theorem o6 : entOK (orO (oracle []) O2) AwHearthK.FT 100000 AwHearthE.e6 = true := by kernel_rfl
theorem k6 : Known (ckRel tt) Tryd.prog AwHearthE.e6 := .of hT hm hFT (.nil) hO2 o6
theorem o7 : entOK (orO (oracle []) O2) AwHearthK.FT 100000 AwHearthE.e7 = true := by kernel_rfl
theorem k7 : Known (ckRel tt) Tryd.prog AwHearthE.e7 := .of hT hm hFT (.nil) hO2 o7
theorem o8 : entOK (orO (oracle []) O2) AwHearthK.FT 100000 AwHearthE.e8 = true := by kernel_rfl
theorem k8 : Known (ckRel tt) Tryd.prog AwHearthE.e8 := .of hT hm hFT (.nil) hO2 o8
end Go.Ai.AwHearth
