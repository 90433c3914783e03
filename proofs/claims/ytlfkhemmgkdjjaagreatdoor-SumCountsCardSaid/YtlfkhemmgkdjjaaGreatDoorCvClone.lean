import Derived.Test.YtlfkhemmgkdjjaaGreatDoorProg
import Derived.WalkKit
import Derived.Deep.LoopGhost
import Derived.Lib.Walk
import Derived.Lib.SliceRun
namespace Go.Proofs
open Go.RowKit Go.Lib
theorem Tryz.clone_none (n : Nat) (w : World) : Calls Tryz.prog 165 #[.slice none 0 n] w fun e w' => e = .returned (.slice none 0 0) ∧ w' = w := by
  have q : ∀ (w : World) (a : Option Addr) (n c n' c' : Nat), (binOp .eql 39 (.slice a n c) (.slice none n' c')).run Tryz.prog w = .ok (.bool a.isNone) w := fun w a n c n' c' => Lib.run_eql_slice_nil w _ _ a n c n' c' Tryz.underlying39
  go_enter Tryz.func165, Tryz.ntmps165
  go_wp2
  go_ret
  exact ⟨rfl, rfl⟩
set_option maxHeartbeats 1000000 in
theorem Tryz.clone_some (a : Addr) (n : Nat) (w : World) : Calls Tryz.prog 165 #[.slice (some a) 0 n] w fun e w' => (∃ a' c', e = .returned (.slice a' 0 c') ∧ c' ≤ maxLen) ∧ Below w.heap.size w w' := by
  have q : ∀ (w : World) (a : Option Addr) (n c n' c' : Nat), (binOp .eql 39 (.slice a n c) (.slice none n' c')).run Tryz.prog w = .ok (.bool a.isNone) w := fun w a n c n' c' => Lib.run_eql_slice_nil w _ _ a n c n' c' Tryz.underlying39
  go_enter Tryz.func165, Tryz.ntmps165
  go_wp2
  go_ret
  exact ⟨⟨_, _, rfl, Nat.zero_le _⟩, (Below.refl _ w).alloc (Nat.le_refl _) _⟩
end Go.Proofs
