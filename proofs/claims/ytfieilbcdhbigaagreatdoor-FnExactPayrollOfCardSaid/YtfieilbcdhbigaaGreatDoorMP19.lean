/- Tied cards over layouts: what the frames share. No condition. -/
import Derived.Test.YtfieilbcdhbigaaGreatDoorMP12
import Derived.Test.YtfieilbcdhbigaaGreatDoorMP8
import Derived.Test.YtfieilbcdhbigaaGreatDoorMP16
import Derived.Test.YtfieilbcdhbigaaGreatDoorMP5
import Derived.Test.YtfieilbcdhbigaaGreatDoorTie
import Derived.Test.YtfieilbcdhbigaaGreatDoorCards
import Derived.Lay
import Derived.Shelf.Vars
namespace Go.Proofs.YtfieilbcdhbigaaGreatDoor
open Go.ChangeShapes Go.WideShapes Go.ChangeAt Go.RowKit
set_option linter.unusedVariables false
set_option maxRecDepth 100000
theorem dep_at {md : Region.Mode} {Inv : Nat → Value → World → Prop} {vs : List Value} {w : World} (j : Nat) : ∀ {es : List Edge}, (es.any fun e => Region.binds md e && e.on == j) = true → depInv md Inv vs w es → Inv j (vs.getD j undef) w
  | [], h, _ => by cases h
  | e :: es, h, hd => by
    rw [List.any_cons, Bool.or_eq_true, Bool.and_eq_true] at h
    rcases h with ⟨h1, h2⟩ | h
    · have : e.on = j := by simpa using h2
      subst this
      exact hd.1 h1
    · exact dep_at j h hd.2
end Go.Proofs.YtfieilbcdhbigaaGreatDoor
