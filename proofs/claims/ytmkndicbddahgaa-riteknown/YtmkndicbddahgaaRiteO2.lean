/- Calls whose answer the machine gives. -/
import Derived.Test.YtmkndicbddahgaaRiteO1
import Derived.Test.YtmkndicbddahgaaRiteE
open Go Go.Ai Go.Proofs
set_option maxRecDepth 100000
set_option Elab.async false
namespace Go.Ai.AwRite
theorem o11 : entOK (oracle []) AwRiteK.FT 100000 AwRiteE.e11 = true := by kernel_rfl
theorem k11 : Known (ckRel tt) Try.prog AwRiteE.e11 := .of hT hm hFT (.nil) o11
theorem o12 : entOK (oracle []) AwRiteK.FT 100000 AwRiteE.e12 = true := by kernel_rfl
theorem k12 : Known (ckRel tt) Try.prog AwRiteE.e12 := .of hT hm hFT (.nil) o12
theorem o13 : entOK (oracle []) AwRiteK.FT 100000 AwRiteE.e13 = true := by kernel_rfl
theorem k13 : Known (ckRel tt) Try.prog AwRiteE.e13 := .of hT hm hFT (.nil) o13
theorem o14 : entOK (oracle []) AwRiteK.FT 100000 AwRiteE.e14 = true := by kernel_rfl
theorem k14 : Known (ckRel tt) Try.prog AwRiteE.e14 := .of hT hm hFT (.nil) o14
theorem o15 : entOK (oracle []) AwRiteK.FT 100000 AwRiteE.e15 = true := by kernel_rfl
theorem k15 : Known (ckRel tt) Try.prog AwRiteE.e15 := .of hT hm hFT (.nil) o15
theorem o16 : entOK (oracle []) AwRiteK.FT 100000 AwRiteE.e16 = true := by kernel_rfl
theorem k16 : Known (ckRel tt) Try.prog AwRiteE.e16 := .of hT hm hFT (.nil) o16
end Go.Ai.AwRite
