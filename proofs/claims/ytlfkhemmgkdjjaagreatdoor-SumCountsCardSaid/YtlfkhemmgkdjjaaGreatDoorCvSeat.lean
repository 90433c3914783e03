/- The seat's program as the evaluator sees it; its tables are right. -/
import Derived.Test.YtlfkhemmgkdjjaaGreatDoorCvTab
import Derived.Test.YtlfkhemmgkdjjaaGreatDoorCvOrcJoin
import Derived.Test.YtlfkhemmgkdjjaaGreatDoorCvOrcInsert
import Derived.Test.YtlfkhemmgkdjjaaGreatDoorCvClone
import Derived.Test.YtlfkhemmgkdjjaaGreatDoorCvShelf
set_option maxRecDepth 100000
namespace Go.Cv
open Go.Proofs

def orcT (f : Nat) : Option (List D → Heap → Option (Out × Heap)) :=
  bif Nat.beq f 317 then some orcIdx else bif Nat.beq f 351 then some orcCnt else bif Nat.beq f 106 then some orcJoin else bif Nat.beq f 156 then some orcInsert else bif Nat.beq f 165 then some orcClone else none

def keepT (f r i : Nat) : Bool :=
  match f, r, i with
  | 61, 1, 5 => true
  | 71, 5, 10 => true
  | 67, 3, 0 => true
  | 123, 6, 0 => true
  | 140, 5, 0 => true
  | 296, 5, 0 => true
  | 165, 3, 0 => true
  | 114, 8, 1 => true
  | _, _, _ => false

/-- What a round leaves to the next one (where the rounds make objects). -/
def liveT (f r : Nat) : Option (List Nat) :=
  match f, r with
  | 17, 3 => some [3, 8, 9, 10]
  | _, _ => none

def byrefT (f : Nat) : Bool :=
  match f with
  | 254 | 255 | 217 | 298 | 324 | 159 | 156 => true
  | 192 | 238 | 273 | 193 => true
  | _ => false

/-- Functions that the evaluator does not run. -/
def badT (f : Nat) : Bool := Nat.beq f 83 || Nat.beq f 135 || Nat.beq f 189 || Nat.beq f 230 || Nat.beq f 232

noncomputable def E0 : Cv.Env where
  ti := fun t => bif Nat.blt t 444 then tiT t else none
  code := fun f => bif Nat.blt f 390 then (bif badT f then none else codeT f) else none
  orc := orcT
  glob := fun _ => none
  live := liveT
  pairs := pairsT
  keep := keepT
  byref := byrefT

theorem ti_all : (List.range 444).map tiT = (List.range 444).map fun t => match tiT t with | some _ => mkTI Tryz.prog t | none => none := by kernel_rfl
theorem code_all : (List.range 390).map codeT = (List.range 390).map fun f => match codeT f with | some _ => Tryz.prog.funcs[f]? | none => none := by kernel_rfl
theorem name_all : ((List.range 390).all fun f => match codeT f with | some fn => !(fn.name == "runtime.NumGoroutine") | none => true) = true := by kernel_rfl
theorem drawn_all : ((List.range 390).all fun f => badT f || match codeT f with | some fn => (match fn.body with | some c => drawnC E0 f c | none => true) | none => true) = true := by kernel_rfl

theorem map_at {α : Type} {f g : Nat → α} {n : Nat} (h : (List.range n).map f = (List.range n).map g) {i : Nat} (hi : i < n) : f i = g i := by
  have := congrArg (·[i]?) h
  simpa [hi] using this

theorem env_ok : EnvOK Tryz.prog E0 where
  ti := fun t i h => by
    have h' : (bif Nat.blt t 444 then tiT t else none) = some i := h
    cases hb : Nat.blt t 444 with
    | false => rw [hb] at h'; cases h'
    | true =>
      rw [hb, cond_true] at h'
      have := map_at ti_all (by simpa [Nat.blt_eq] using hb : t < 444)
      rw [h'] at this
      exact this.symm
  code := fun f fn h => by
    have h' : (bif Nat.blt f 390 then (bif badT f then none else codeT f) else none) = some fn := h
    cases hb : Nat.blt f 390 with
    | false => rw [hb] at h'; cases h'
    | true =>
      rw [hb, cond_true] at h'
      cases hbad : badT f with
      | true => rw [hbad] at h'; cases h'
      | false =>
      rw [hbad, cond_false] at h'
      have hlt : f < 390 := by simpa [Nat.blt_eq] using hb
      have := map_at code_all hlt
      have hn := List.all_eq_true.1 name_all f (by simp [hlt])
      rw [h'] at this hn
      exact ⟨this.symm, by simpa using hn⟩
  mixed := by kernel_rfl
  drawn := fun f fn c h hc => by
    have h' : (bif Nat.blt f 390 then (bif badT f then none else codeT f) else none) = some fn := h
    cases hb : Nat.blt f 390 with
    | false => rw [hb] at h'; cases h'
    | true =>
      rw [hb, cond_true] at h'
      cases hbad : badT f with
      | true => rw [hbad] at h'; cases h'
      | false =>
      rw [hbad, cond_false] at h'
      have hlt : f < 390 := by simpa [Nat.blt_eq] using hb
      have hn := List.all_eq_true.1 drawn_all f (by simp [hlt])
      rw [h', hbad] at hn
      simp only [hc, Bool.false_or] at hn
      exact hn

theorem orc_ok : OrcOK Tryz.prog E0 := by
  intro f o h
  have h' : orcT f = some o := h
  unfold orcT at h'
  by_cases h1 : f = 317
  · subst h1
    simp only [show Nat.beq 317 317 = true from rfl, cond_true, Option.some.injEq] at h'
    subst h'
    exact idx_ok Tryz.func317 (by kernel_rfl) (by kernel_rfl) (by kernel_rfl) (by kernel_rfl)
  by_cases h2 : f = 351
  · subst h2
    simp only [show Nat.beq 351 317 = false from rfl, show Nat.beq 351 351 = true from rfl, cond_true, cond_false, Option.some.injEq] at h'
    subst h'
    exact cnt_ok Tryz.func351 (by kernel_rfl) (by kernel_rfl) (by kernel_rfl) (by kernel_rfl)
  by_cases h3 : f = 106
  · subst h3
    simp only [show Nat.beq 106 317 = false from rfl, show Nat.beq 106 351 = false from rfl, show Nat.beq 106 106 = true from rfl, cond_true, cond_false, Option.some.injEq] at h'
    subst h'
    exact join_ok ⟨_, Tryz.func106, by kernel_rfl, by kernel_rfl⟩ Tryz.strings_Join_none Tryz.strings_Join
  by_cases h4 : f = 156
  · subst h4
    simp only [show Nat.beq 156 317 = false from rfl, show Nat.beq 156 351 = false from rfl, show Nat.beq 156 106 = false from rfl, show Nat.beq 156 156 = true from rfl, cond_true, cond_false, Option.some.injEq] at h'
    subst h'
    exact insert_ok
  by_cases h5 : f = 165
  · subst h5
    simp only [show Nat.beq 165 317 = false from rfl, show Nat.beq 165 351 = false from rfl, show Nat.beq 165 106 = false from rfl, show Nat.beq 165 156 = false from rfl, show Nat.beq 165 165 = true from rfl, cond_true, cond_false, Option.some.injEq] at h'
    subst h'
    refine clone_ok ⟨_, Tryz.func165, by kernel_rfl, by kernel_rfl⟩ fun a cp w => ?_
    cases a with
    | none => exact (Tryz.clone_none cp w).mono fun e w' ⟨h1, h2⟩ => ⟨none, 0, h1, Nat.zero_le _, by rw [h2]; exact RowKit.Below.refl _ _⟩
    | some a => exact (Tryz.clone_some a cp w).mono fun e w' ⟨⟨a', c', h1, h2⟩, h3⟩ => ⟨a', c', h1, h2, h3⟩
  · rw [beqF h1, beqF h2, beqF h3, beqF h4, beqF h5] at h'
    cases h'

theorem calls_ok (k : Nat) : CallOK Tryz.prog E0 (pcall E0 k) := pcall_ok env_ok orc_ok k
end Go.Cv
