/- Calls whose answer the machine gives. -/
import Derived.Test.YtmkndicbddahgaaRiteO2
import Derived.Test.YtmkndicbddahgaaRiteE
open Go Go.Ai Go.Proofs
set_option maxRecDepth 100000
set_option Elab.async false
namespace Go.Ai.AwRite
theorem o17 : entOK (oracle []) AwRiteK.FT 100000 AwRiteE.e17 = true := by kernel_rfl
theorem k17 : Known (ckRel tt) Try.prog AwRiteE.e17 := .of hT hm hFT (.nil) o17
theorem o18 : entOK (oracle []) AwRiteK.FT 100000 AwRiteE.e18 = true := by kernel_rfl
theorem k18 : Known (ckRel tt) Try.prog AwRiteE.e18 := .of hT hm hFT (.nil) o18
theorem o19 : entOK (oracle []) AwRiteK.FT 100000 AwRiteE.e19 = true := by kernel_rfl
theorem k19 : Known (ckRel tt) Try.prog AwRiteE.e19 := .of hT hm hFT (.nil) o19
theorem o20 : entOK (oracle []) AwRiteK.FT 100000 AwRiteE.e20 = true := by kernel_rfl
theorem k20 : Known (ckRel tt) Try.prog AwRiteE.e20 := .of hT hm hFT (.nil) o20
theorem o21 : entOK (oracle []) AwRiteK.FT 100000 AwRiteE.e21 = true := by kernel_rfl
theorem k21 : Known (ckRel tt) Try.prog AwRiteE.e21 := .of hT hm hFT (.nil) o21
theorem o22 : entOK (oracle []) AwRiteK.FT 100000 AwRiteE.e22 = true := by kernel_rfl
theorem k22 : Known (ckRel tt) Try.prog AwRiteE.e22 := .of hT hm hFT (.nil) o22
theorem o23 : entOK (oracle []) AwRiteK.FT 100000 AwRiteE.e23 = true := by kernel_rfl
theorem k23 : Known (ckRel tt) Try.prog AwRiteE.e23 := .of hT hm hFT (.nil) o23
theorem o24 : entOK (oracle []) AwRiteK.FT 100000 AwRiteE.e24 = true := by kernel_rfl
theorem k24 : Known (ckRel tt) Try.prog AwRiteE.e24 := .of hT hm hFT (.nil) o24
theorem o25 : entOK (oracle [AwRiteE.e10, AwRiteE.e11, AwRiteE.e12, AwRiteE.e13, AwRiteE.e14, AwRiteE.e15, AwRiteE.e16, AwRiteE.e17, AwRiteE.e18, AwRiteE.e19, AwRiteE.e20, AwRiteE.e21, AwRiteE.e22, AwRiteE.e23, AwRiteE.e24]) AwRiteK.FT 100000 AwRiteE.e25 = true := by kernel_rfl
theorem k25 : Known (ckRel tt) Try.prog AwRiteE.e25 := .of hT hm hFT (.cons k10 <| .cons k11 <| .cons k12 <| .cons k13 <| .cons k14 <| .cons k15 <| .cons k16 <| .cons k17 <| .cons k18 <| .cons k19 <| .cons k20 <| .cons k21 <| .cons k22 <| .cons k23 <| .cons k24 <| .nil) o25
theorem o26 : entOK (oracle []) AwRiteK.FT 100000 AwRiteE.e26 = true := by kernel_rfl
theorem k26 : Known (ckRel tt) Try.prog AwRiteE.e26 := .of hT hm hFT (.nil) o26
end Go.Ai.AwRite
