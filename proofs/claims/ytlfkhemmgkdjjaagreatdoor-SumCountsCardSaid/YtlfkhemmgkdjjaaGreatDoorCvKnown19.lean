/- known() of layer 19. -/
import Derived.Test.YtlfkhemmgkdjjaaGreatDoorCvSeat
set_option maxRecDepth 100000
namespace Go.Cv
theorem known19_run : (match pcall E0 1000 15 [] [] with | some (.ret (.bool b), _) => b | _ => false) = true := by kernel_rfl
theorem known19 : ∃ H', pcall E0 1000 15 [] [] = some (.ret (.bool true), H') := by
  have h := known19_run
  split at h
  · rename_i b H' hp
    subst h
    exact ⟨H', hp⟩
  · cases h
end Go.Cv
