/- Calls whose answer the machine gives. -/
import Derived.Test.YtmkndicbddahgaaRiteO0
import Derived.Test.YtmkndicbddahgaaRiteE
open Go Go.Ai Go.Proofs
set_option maxRecDepth 100000
set_option Elab.async false
namespace Go.Ai.AwRite
theorem o3 : entOK (oracle [AwRiteE.e2]) AwRiteK.FT 100000 AwRiteE.e3 = true := by kernel_rfl
theorem k3 : Known (ckRel tt) Try.prog AwRiteE.e3 := .of hT hm hFT (.cons k2 <| .nil) o3
theorem o4 : entOK (oracle []) AwRiteK.FT 100000 AwRiteE.e4 = true := by kernel_rfl
theorem k4 : Known (ckRel tt) Try.prog AwRiteE.e4 := .of hT hm hFT (.nil) o4
theorem o5 : entOK (oracle [AwRiteE.e4]) AwRiteK.FT 100000 AwRiteE.e5 = true := by kernel_rfl
theorem k5 : Known (ckRel tt) Try.prog AwRiteE.e5 := .of hT hm hFT (.cons k4 <| .nil) o5
theorem o6 : entOK (oracle []) AwRiteK.FT 100000 AwRiteE.e6 = true := by kernel_rfl
theorem k6 : Known (ckRel tt) Try.prog AwRiteE.e6 := .of hT hm hFT (.nil) o6
theorem o7 : entOK (oracle [AwRiteE.e6]) AwRiteK.FT 100000 AwRiteE.e7 = true := by kernel_rfl
theorem k7 : Known (ckRel tt) Try.prog AwRiteE.e7 := .of hT hm hFT (.cons k6 <| .nil) o7
theorem o8 : entOK (oracle []) AwRiteK.FT 100000 AwRiteE.e8 = true := by kernel_rfl
theorem k8 : Known (ckRel tt) Try.prog AwRiteE.e8 := .of hT hm hFT (.nil) o8
theorem o9 : entOK (oracle [AwRiteE.e8]) AwRiteK.FT 100000 AwRiteE.e9 = true := by kernel_rfl
theorem k9 : Known (ckRel tt) Try.prog AwRiteE.e9 := .of hT hm hFT (.cons k8 <| .nil) o9
theorem o10 : entOK (oracle []) AwRiteK.FT 100000 AwRiteE.e10 = true := by kernel_rfl
theorem k10 : Known (ckRel tt) Try.prog AwRiteE.e10 := .of hT hm hFT (.nil) o10
end Go.Ai.AwRite
