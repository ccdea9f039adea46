/- AccessRights returns true, and its input reads as it did, wherever what it reads is of bulk at most 1048576 (the card). -/
import Derived.Test.YtedapkgjicmhjaaGreatDoorSi
namespace Go.Proofs.YtedapkgjicmhjaaGreatDoor
theorem accessRightsUpto : Rows.AccessRightsUptoCardSaid := Go.Pv.T.card
end Go.Proofs.YtedapkgjicmhjaaGreatDoor
