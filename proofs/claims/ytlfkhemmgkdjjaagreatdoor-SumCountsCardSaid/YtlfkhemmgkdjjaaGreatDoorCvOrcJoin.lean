/- strings.Join by the shelf's contract; slices.Clone of nothing. -/
import Derived.Test.YtlfkhemmgkdjjaaGreatDoorCvOrcBase
import Derived.Lib.Join
set_option linter.unusedSimpArgs false
set_option linter.unusedVariables false
namespace Go.Cv
open Go.RowKit

section
variable {P : Program} {E : Env} {c : Ctx}

theorem joinB_eq (sep : List UInt8) : (l : List (List UInt8)) → joinB sep l = Lib.join l sep
  | [] => rfl
  | [x] => by simp [joinB, Lib.join, List.intercalate]
  | x :: y :: xs => by
    have := joinB_eq sep (y :: xs)
    simp only [joinB, this]
    simp [Lib.join, List.intercalate, List.intersperse]

theorem join_ok {f : FuncId} (hcb : Callable P f)
    (hnone : ∀ (a : Option Addr) (cp : Nat) (sep : ByteArray) (w : World), Calls P f #[.slice a 0 cp, .string sep] w fun e w' => e = .returned (.string ⟨#[]⟩) ∧ w' = w)
    (hjoin : ∀ (bk o cp : Nat) (xs : List ByteArray) (sep : ByteArray) (w : World), (∀ (j : Nat) x, xs[j]? = some x → w.cell? ⟨bk, o + j, none⟩ = some (.string x)) → bk < w.heap.size → xs.length ≤ 140737488355328 → xs.length ≤ cp → (Lib.join (xs.map (·.data.toList)) sep.data.toList).length ≤ 140737488355328 →
      Calls P f #[.slice (some ⟨bk, o, none⟩) xs.length cp, .string sep] w fun e w' => e = .returned (.string ⟨(Lib.join (xs.map (·.data.toList)) sep.data.toList).toArray⟩) ∧ Below w.heap.size w w') : OrcFor P E f orcJoin := by
  intro c H args vs out H' hi hH hv h
  unfold orcJoin at h
  split at h
  case h_2 => cases h
  rename_i xs sep
  split at h
  case h_2 => cases h
  rename_i l hl
  split at h
  case isFalse => cases h
  rename_i hb
  injection h with h
  simp only [Prod.mk.injEq] at h
  obtain ⟨rfl, rfl⟩ := h
  have hxs := strsOf_spec hl
  obtain ⟨v1, v2, rfl, h1, h2⟩ := rep_two hv
  simp only [Rep] at h1 h2
  subst h2
  obtain ⟨a, len, cap, rfl, k1, k2, k3, k4⟩ := h1
  refine calls_gives hi hH hcb ?_
  rcases k4 with k4 | ⟨b, o, sz, rfl, k4⟩
  · have hl0 : l = [] := by rw [k4] at hxs; cases l with | nil => rfl | cons x l => simp at hxs
    subst hl0
    rw [k4] at k1
    subst k1
    exact (hnone a cap _ c.w).mono fun e w' ⟨he, hw⟩ => ⟨_, he, by rw [hw]; exact Below.refl _ _, by simp [Rep, joinB]⟩
  · have hlen : len = (l.map fun s => (⟨s.toArray⟩ : ByteArray)).length := by rw [k1, hxs]; simp
    rcases Nat.eq_zero_or_pos l.length with h0 | h0
    · have hl0 := List.eq_nil_of_length_eq_zero h0
      subst hl0
      simp only [List.map_nil, List.length_nil] at hlen
      subst hlen
      exact (hnone _ cap _ c.w).mono fun e w' ⟨he, hw⟩ => ⟨_, he, by rw [hw]; exact Below.refl _ _, by simp [Rep, joinB]⟩
    have hsz : sz = 1 := by
      have := (k4.get 0 [D.str l[0]] (by rw [hxs]; simp [h0])).1
      simpa using this.symm
    subst hsz
    have hcells : ∀ (j : Nat) x, (l.map fun s => (⟨s.toArray⟩ : ByteArray))[j]? = some x → c.w.cell? ⟨b, o + j, none⟩ = some (.string x) := fun j x hx => by
      simp only [List.getElem?_map, Option.map_eq_some_iff] at hx
      obtain ⟨s, hs, rfl⟩ := hx
      have hr := (k4.get j [D.str s] (by rw [hxs]; simp [hs])).2
      simp only [RepCells, Rep, Nat.mul_one] at hr
      obtain ⟨⟨_, _, u, hu, _, rfl⟩, _⟩ := hr
      exact hu
    have hmap : (l.map fun s => (⟨s.toArray⟩ : ByteArray)).map (·.data.toList) = l := by simp [List.map_map, Function.comp_def]
    have hlt : b < c.w.heap.size := World.block_lt_of_cell? c.w _ (hcells 0 ⟨(l[0]).toArray⟩ (by simp [h0]))
    have := hjoin b o cap (l.map fun s => (⟨s.toArray⟩ : ByteArray)) ⟨sep.toArray⟩ c.w hcells hlt (by simpa using hb.1) (by rw [← hlen]; exact k2) (by rw [hmap]; rw [← joinB_eq]; simpa using hb.2)
    rw [hmap] at this
    rw [hlen]
    refine this.mono fun e w' ⟨he, hw⟩ => ⟨_, he, hw, ?_⟩
    simp only [Rep, joinB_eq]

def orcClone (args : List D) (H : Heap) : Option (Out × Heap) := match args with
  | [.slc []] => some (.ret (.slc []), H)
  | _ => none

theorem clone_ok {f : FuncId} (hcb : Callable P f)
    (h0 : ∀ (a : Option Addr) (cp : Nat) (w : World), Calls P f #[.slice a 0 cp] w fun e w' => ∃ a' cp', e = .returned (.slice a' 0 cp') ∧ cp' ≤ maxLen ∧ Below w.heap.size w w') : OrcFor P E f orcClone := by
  intro c H args vs out H' hi hH hv h
  unfold orcClone at h
  split at h
  case h_2 => cases h
  injection h with h
  simp only [Prod.mk.injEq] at h
  obtain ⟨rfl, rfl⟩ := h
  obtain ⟨v1, rfl, h1⟩ := rep_one hv
  simp only [Rep] at h1
  obtain ⟨a, len, cap, rfl, k1, k2, k3, k4⟩ := h1
  simp only [List.length_nil] at k1
  subst k1
  refine calls_gives hi hH hcb ((h0 a cap c.w).mono fun e w' ⟨a', cp', he, hm, hw⟩ => ⟨_, he, hw, ?_⟩)
  simp only [Rep]
  exact ⟨_, _, _, rfl, rfl, by simp, hm, .inl trivial⟩

end
end Go.Cv
