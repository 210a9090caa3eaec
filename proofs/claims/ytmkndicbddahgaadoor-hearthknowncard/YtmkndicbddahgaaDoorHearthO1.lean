/- Calls whose answer the machine gives. -/
import Derived.Test.YtmkndicbddahgaaDoorHearthO0
import Derived.Test.YtmkndicbddahgaaDoorHearthE
open Go Go.Ai Go.Proofs
set_option maxRecDepth 100000
set_option Elab.async false
namespace Go.Ai.AwHearth
theorem o9 : entOK (orO (oracle []) O2) AwHearthK.FT 100000 AwHearthE.e9 = true := by kernel_rfl
theorem k9 : Known (ckRel tt) Tryd.prog AwHearthE.e9 := .of hT hm hFT (.nil) hO2 o9
theorem o10 : entOK (orO (oracle [AwHearthE.e9]) O2) AwHearthK.FT 100000 AwHearthE.e10 = true := by kernel_rfl
theorem k10 : Known (ckRel tt) Tryd.prog AwHearthE.e10 := .of hT hm hFT (.cons k9 <| .nil) hO2 o10
theorem o11 : entOK (orO (oracle [AwHearthE.e10]) O2) AwHearthK.FT 100000 AwHearthE.e11 = true := by kernel_rfl
theorem k11 : Known (ckRel tt) Tryd.prog AwHearthE.e11 := .of hT hm hFT (.cons k10 <| .nil) hO2 o11
theorem o12 : entOK (orO (oracle [AwHearthE.e11]) O2) AwHearthK.FT 100000 AwHearthE.e12 = true := by kernel_rfl
theorem k12 : Known (ckRel tt) Tryd.prog AwHearthE.e12 := .of hT hm hFT (.cons k11 <| .nil) hO2 o12
theorem o13 : entOK (orO (oracle []) O2) AwHearthK.FT 100000 AwHearthE.e13 = true := by kernel_rfl
theorem k13 : Known (ckRel tt) Tryd.prog AwHearthE.e13 := .of hT hm hFT (.nil) hO2 o13
theorem o14 : entOK (orO (oracle [AwHearthE.e13]) O2) AwHearthK.FT 100000 AwHearthE.e14 = true := by kernel_rfl
theorem k14 : Known (ckRel tt) Tryd.prog AwHearthE.e14 := .of hT hm hFT (.cons k13 <| .nil) hO2 o14
theorem o15 : entOK (orO (oracle [AwHearthE.e14]) O2) AwHearthK.FT 100000 AwHearthE.e15 = true := by kernel_rfl
theorem k15 : Known (ckRel tt) Tryd.prog AwHearthE.e15 := .of hT hm hFT (.cons k14 <| .nil) hO2 o15
theorem o16 : entOK (orO (oracle [AwHearthE.e15]) O2) AwHearthK.FT 100000 AwHearthE.e16 = true := by kernel_rfl
theorem k16 : Known (ckRel tt) Tryd.prog AwHearthE.e16 := .of hT hm hFT (.cons k15 <| .nil) hO2 o16
theorem o17 : entOK (orO (oracle []) O2) AwHearthK.FT 100000 AwHearthE.e17 = true := by kernel_rfl
theorem k17 : Known (ckRel tt) Tryd.prog AwHearthE.e17 := .of hT hm hFT (.nil) hO2 o17
theorem o18 : entOK (orO (oracle [AwHearthE.e17]) O2) AwHearthK.FT 100000 AwHearthE.e18 = true := by kernel_rfl
theorem k18 : Known (ckRel tt) Tryd.prog AwHearthE.e18 := .of hT hm hFT (.cons k17 <| .nil) hO2 o18
theorem o19 : entOK (orO (oracle [AwHearthE.e18]) O2) AwHearthK.FT 100000 AwHearthE.e19 = true := by kernel_rfl
theorem k19 : Known (ckRel tt) Tryd.prog AwHearthE.e19 := .of hT hm hFT (.cons k18 <| .nil) hO2 o19
theorem o20 : entOK (orO (oracle [AwHearthE.e19]) O2) AwHearthK.FT 100000 AwHearthE.e20 = true := by kernel_rfl
theorem k20 : Known (ckRel tt) Tryd.prog AwHearthE.e20 := .of hT hm hFT (.cons k19 <| .nil) hO2 o20
theorem o21 : entOK (orO (oracle [AwHearthE.e20]) O2) AwHearthK.FT 100000 AwHearthE.e21 = true := by kernel_rfl
theorem k21 : Known (ckRel tt) Tryd.prog AwHearthE.e21 := .of hT hm hFT (.cons k20 <| .nil) hO2 o21
theorem o22 : entOK (orO (oracle [AwHearthE.e21]) O2) AwHearthK.FT 100000 AwHearthE.e22 = true := by kernel_rfl
theorem k22 : Known (ckRel tt) Tryd.prog AwHearthE.e22 := .of hT hm hFT (.cons k21 <| .nil) hO2 o22
theorem o23 : entOK (orO (oracle [AwHearthE.e22]) O2) AwHearthK.FT 100000 AwHearthE.e23 = true := by kernel_rfl
theorem k23 : Known (ckRel tt) Tryd.prog AwHearthE.e23 := .of hT hm hFT (.cons k22 <| .nil) hO2 o23
theorem o24 : entOK (orO (oracle [AwHearthE.e23]) O2) AwHearthK.FT 100000 AwHearthE.e24 = true := by kernel_rfl
theorem k24 : Known (ckRel tt) Tryd.prog AwHearthE.e24 := .of hT hm hFT (.cons k23 <| .nil) hO2 o24
theorem o25 : entOK (orO (oracle [AwHearthE.e12, AwHearthE.e16, AwHearthE.e24]) O2) AwHearthK.FT 100000 AwHearthE.e25 = true := by kernel_rfl
theorem k25 : Known (ckRel tt) Tryd.prog AwHearthE.e25 := .of hT hm hFT (.cons k12 <| .cons k16 <| .cons k24 <| .nil) hO2 o25
end Go.Ai.AwHearth
