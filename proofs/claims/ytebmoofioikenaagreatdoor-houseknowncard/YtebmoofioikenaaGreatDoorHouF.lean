/- What the library's calls give, off the shelf's contracts. -/
import Derived.Test.YtebmoofioikenaaGreatDoorAi31
import Derived.Test.YtebmoofioikenaaGreatDoorShlf
import Derived.KernelRfl
namespace Go.Ai.AwHouF
open Go Go.Ai Go.Proofs
theorem idx : FlatSays Tryz.prog 98 idxS := idx_says ⟨_, Tryz.func98, by kernel_rfl, by kernel_rfl⟩ Tryz.stringslite_IndexByte
theorem cnt : FlatSays Tryz.prog 50 cntS := cnt_says ⟨_, Tryz.func50, by kernel_rfl, by kernel_rfl⟩ Tryz.strings_Count_one
theorem join : FlatSays Tryz.prog 138 joinS := join_says ⟨_, Tryz.func138, by kernel_rfl, by kernel_rfl⟩ Tryz.strings_Join
end Go.Ai.AwHouF
