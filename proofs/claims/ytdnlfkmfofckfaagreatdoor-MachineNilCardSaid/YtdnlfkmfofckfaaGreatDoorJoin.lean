/- MachineNil: the row's closed facts, joined. -/
import Derived.Test.YtdnlfkmfofckfaaGreatDoorJname
import Derived.Test.YtdnlfkmfofckfaaGreatDoorClo
import Derived.Test.YtdnlfkmfofckfaaGreatDoorLo
import Derived.Test.YtdnlfkmfofckfaaGreatDoorFacts
import Derived.Stop.Joined
namespace Go.Proofs.YtdnlfkmfofckfaaGreatDoor
open Go
set_option maxRecDepth 100000
theorem fJoined : joinedFacts Tryz.prog 3 Tryz.f3 jS jR = true := by
  simp only [joinedFacts, Bool.and_eq_true]
  exact ⟨⟨⟨⟨⟨⟨⟨⟨⟨⟨⟨⟨⟨⟨⟨⟨⟨⟨⟨⟨⟨⟨⟨⟨⟨⟨⟨⟨⟨⟨⟨j01, j02⟩, j03⟩, j04⟩, j05⟩, j06⟩, j07⟩, j08⟩, j09⟩, j10⟩, j11⟩, j12⟩, j13⟩, j14⟩, j15⟩, j16⟩, j17⟩, j18⟩, j19⟩, j20⟩, j21⟩, j22⟩, j23⟩, j24⟩, j25⟩, j26⟩, j27⟩, j28⟩, j29⟩, j30⟩, j31⟩, j32⟩
end Go.Proofs.YtdnlfkmfofckfaaGreatDoor
