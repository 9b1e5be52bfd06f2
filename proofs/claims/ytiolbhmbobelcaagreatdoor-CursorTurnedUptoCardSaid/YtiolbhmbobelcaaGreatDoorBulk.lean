/- The rows' count of values and letters is a count as the runs ask it. -/
import Derived.Test.YtiolbhmbobelcaaGreatDoorRows
import Derived.Test.YtiolbhmbobelcaaGreatDoorAiy
namespace Go.Proofs.YtiolbhmbobelcaaGreatDoor.AI
open Go
theorem bulk_all {H : Type} : ∀ ds : List (DataW H), Rows.uptoBulkAll ds = (ds.map Rows.uptoBulk).sum
  | [] => by simp [Rows.uptoBulkAll]
  | d :: r => by rw [Rows.uptoBulkAll, bulk_all r]; simp
theorem bulk_is {H : Type} : Bulk (H := H) Rows.uptoBulk where
  one d := by
    cases d with
    | lit l => cases l <;> simp [Rows.uptoBulk]
    | _ => simp [Rows.uptoBulk]
  str b := by simp [Rows.uptoBulk]
  sl es sp := by rw [Rows.uptoBulk, bulk_all]; omega
  ag ps := by rw [Rows.uptoBulk, bulk_all]; omega
end Go.Proofs.YtiolbhmbobelcaaGreatDoor.AI
