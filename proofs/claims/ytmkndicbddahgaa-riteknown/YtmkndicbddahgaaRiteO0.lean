/- Calls whose answer the machine gives. -/
import Derived.Test.YtmkndicbddahgaaRiteC
import Derived.Test.YtmkndicbddahgaaRiteE
open Go Go.Ai Go.Proofs
set_option maxRecDepth 100000
set_option Elab.async false
namespace Go.Ai.AwRite
theorem o0 : entOK (oracle []) AwRiteK.FT 100000 AwRiteE.e0 = true := by kernel_rfl
theorem k0 : Known (ckRel tt) Try.prog AwRiteE.e0 := .of hT hm hFT (.nil) o0
theorem o1 : entOK (oracle [AwRiteE.e0]) AwRiteK.FT 100000 AwRiteE.e1 = true := by kernel_rfl
theorem k1 : Known (ckRel tt) Try.prog AwRiteE.e1 := .of hT hm hFT (.cons k0 <| .nil) o1
theorem o2 : entOK (oracle []) AwRiteK.FT 100000 AwRiteE.e2 = true := by kernel_rfl
theorem k2 : Known (ckRel tt) Try.prog AwRiteE.e2 := .of hT hm hFT (.nil) o2
end Go.Ai.AwRite
