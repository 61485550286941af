import Derived.Test.YtleofbpepfmfgaaGreatDoorVxPush
set_option maxRecDepth 100000
namespace Go.Proofs.YtleofbpepfmfgaaGreatDoor
open Go Go.Vx
def q2f:List Value:=[i 17,i 0,.string ⟨#[99,111,110,115,116]⟩,i 3,i 0,.string ⟨#[109,111,118,101]⟩,i 7,i 0,.string ⟨#[97,100,100]⟩,i 7,i 0,.string ⟨#[115,117,98]⟩,i 7,i 0,.string ⟨#[97,110,100]⟩,i 7,i 0,.string ⟨#[111,114]⟩,i 7,i 0,.string ⟨#[120,111,114]⟩,i 7,i 0,.string ⟨#[115,104,108]⟩,i 7,i 0,.string ⟨#[115,104,114]⟩,i 7,i 0,.string ⟨#[108,101,115,115]⟩,i 7,i 0,.string ⟨#[101,113,117,97,108]⟩,i 15,i 0,.string ⟨#[112,105,99,107]⟩,i 7,i 1,.string ⟨#[109,117,108]⟩,i 7,i 1,.string ⟨#[100,105,118]⟩,i 7,i 1,.string ⟨#[114,101,109]⟩,i 35,i 2,.string ⟨#[108,111,97,100]⟩,i 38,i 2,.string ⟨#[115,116,111,114,101]⟩,i 65,i 2,.string ⟨#[102,101,116,99,104]⟩,i 66,i 2,.string ⟨#[107,101,101,112]⟩,i 2,i 3,.string ⟨#[112,114,105,110,116]⟩,i 130,i 3,.string ⟨#[101,120,105,116]⟩,i 2,i 3,.string ⟨#[99,104,101,99,107]⟩,i 7,i 1,.string ⟨#[100,105,118,115]⟩,i 7,i 1,.string ⟨#[114,101,109,115]⟩,i 35,i 2,.string ⟨#[108,111,97,100,115]⟩]
end Go.Proofs.YtleofbpepfmfgaaGreatDoor
