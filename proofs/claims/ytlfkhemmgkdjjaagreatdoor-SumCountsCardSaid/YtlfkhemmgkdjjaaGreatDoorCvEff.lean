/- The operations that write. -/
import Derived.Test.YtlfkhemmgkdjjaaGreatDoorCvFull
set_option linter.unusedSimpArgs false
set_option linter.unusedVariables false
namespace Go.Cv
open Go.RowKit

section
variable {P : Program} {E : Env} {c : Ctx} {call : CallF}

/-- What an operation that writes does. -/
def EffDoes (P : Program) (E : Env) (c : Ctx) (o : Oper) (a : Act) (r : OpR) (H : Heap) (T : List Nat) : Prop :=
  match r with
  | .val d H' => ∀ (next : Act → World → Prop) (Q : Exit → Act → World → Prop), (∀ v c' W, Step c c' → Inv E c' → Rep c' d v → (∀ i ∈ W, i ∈ T) → HStep H H' c.H c'.H W → next (a.put o.dst v) c'.w) → o.wp P a c.w next Q
  | .pan d H' => ∀ (next : Act → World → Prop) (Q : Exit → Act → World → Prop), (∀ v c' W, Step c c' → Inv E c' → Rep c' d v → (∀ i ∈ W, i ∈ T) → HStep H H' c.H c'.H W → Q (.panic [{ v := v, recovered := false }]) a c'.w) → o.wp P a c.w next Q

def OpR.heap : OpR → Heap
  | .val _ H => H
  | .pan _ H => H

theorem idsL_of {l : List D} {d : D} (h : d ∈ l) {id : Nat} (hid : id ∈ ids d) : id ∈ idsL l := by
  induction l with
  | nil => simp at h
  | cons x l ih =>
    simp only [idsL, List.mem_append]
    rcases List.mem_cons.1 h with rfl | h
    · exact .inl hid
    · exact .inr (ih h)

/-- What is read of the operands is touched. -/
theorem touch_mem {o : Oper} {ρ : Operand → D} {H : Heap} {x : Operand} (hx : x ∈ o.op.operands.toList) {id : Nat} (hid : id ∈ ids (ρ x)) : id ∈ touch E o ρ H := by
  have hdef : id ∈ idsL (o.op.operands.toList.map ρ) := idsL_of (List.mem_map_of_mem hx) hid
  unfold touch
  split
  · rename_i cl ho
    split
    · rename_i gx hcl
      split
      · rename_i g first captured hg
        simp only [List.mem_append]
        right
        rw [idsL_append, idsL_append, List.mem_append, List.mem_append]
        rw [ho] at hx
        simp only [Op.operands, Call.operands, hcl, Array.toList_append, List.mem_append] at hx
        rcases hx with hx | hx
        · simp at hx
          subst hx
          rw [hg] at hid
          simp only [ids, List.mem_append] at hid
          rcases hid with hid | hid
          · exact .inl (.inl hid)
          · exact .inr hid
        · exact .inl (.inr (idsL_of (List.mem_map_of_mem hx) hid))
      · exact hdef
    · exact hdef
  · exact hdef

/-- What is known where an operation is carried out, all that it may touch included. -/
structure Ready (E : Env) (c : Ctx) (o : Oper) (ρ : Operand → D) (a : Act) (H : Heap) : Prop where
  rep : ∀ x ∈ o.op.operands.toList, Rep c (ρ x) (a.eval x)
  hp : ∀ id ∈ touch E o ρ H, ∀ ob, H[id]? = some ob → c.H id = some ob

theorem Ready.here {o : Oper} {ρ : Operand → D} {a : Act} {H : Heap} (h : Ready E c o ρ a H) : Here c ρ a H o.op.operands.toList :=
  ⟨h.rep, fun x hx id hid => h.hp id (touch_mem hx hid)⟩

theorem eff_sound (hi : Inv E c) (hE : EnvOK P E) (hcall : CallOK P E call) {f r i : Nat} {o : Oper} {ρ : Operand → D} {a : Act} {H : Heap} (hh : Ready E c o ρ a H) {res : OpR}
    (hn : ∀ i, H.length ≤ i → i < res.heap.length → c.H i = none) (h : evEff E call f r i o ρ H = some res) : EffDoes P E c o a res H (touch E o ρ H) := by
  have hh' := hh.here
  unfold evEff at h
  split at h
  · -- store
    rename_i t x y ho
    simp only [Option.map_eq_some_iff] at h
    obtain ⟨H', h1, rfl⟩ := h
    obtain ⟨c', id, ob, ob', k1, k2, k3, k4, k5, rfl, k6⟩ := store_sound hi hE (hh'.hp x (by simp [ho, Op.operands])) h1 (hh'.rep x (by simp [ho, Op.operands])) (hh'.rep y (by simp [ho, Op.operands]))
    intro next Q hq
    have hx := hq undef c' [id] k2 k3 (by simp only [Rep]; exact ⟨#[], rfl, by simp [RepL]⟩) (fun i hm => by
      simp at hm; subst hm; exact touch_mem (x := x) (by simp [ho, Op.operands]) k4) (by rw [k6]; exact HStep.set H c.H _ k5)
    unfold Oper.wp execOp
    simp only [ho, Sem.run_bind, k1, Result.andThen_ok, Sem.run_pure, Oper.upon_skip]
    exact hx
  · -- panic
    rename_i x ho
    split at h
    case h_2 => cases h
    rename_i t d hx
    split at h
    case isFalse => cases h
    injection h with h
    subst h
    have hr := hh'.rep x (by simp [ho, Op.operands])
    rw [hx] at hr
    have hr' := hr
    simp only [Rep] at hr
    obtain ⟨u, hu, _⟩ := hr
    intro next Q hq
    have hy := hq (.iface t u) c [] (Step.refl c) hi (by rw [← hu]; exact hr') (by simp) (HStep.refl _ _)
    unfold Oper.wp execOp
    simp only [ho, hu, Instr.panic, Sem.run_bind]
    simpa [goPanic, Oper.upon] using hy
  · rename_i cl ho
    split at h
    · -- append
      rename_i hcl
      split at h
      case h_2 => cases h
      rename_i t tx s x hts hargs
      simp only [Option.map_eq_some_iff] at h
      obtain ⟨⟨d, H'⟩, h1, rfl⟩ := h
      have ha : cl.args = #[s, x] := by rw [← Array.toList_inj]; exact hargs
      have ht : cl.argTypes = #[t, tx] := by rw [← Array.toList_inj]; exact hts
      have hs := hh'.rep s (by simp [ho, Op.operands, Call.operands, ha])
      have hx := hh'.rep x (by simp [ho, Op.operands, Call.operands, ha])
      have hps := hh'.hp s (by simp [ho, Op.operands, Call.operands, ha])
      have hpx := hh'.hp x (by simp [ho, Op.operands, Call.operands, ha])
      intro next Q hq
      obtain ⟨v, c', k1, k2, k3, k4, W, k5, k6⟩ := append_sound (ty := o.type) hi hE (fun id hid => hid.elim (hps id) (hpx id)) (fun hg => hn H.length (Nat.le_refl _) hg) h1 hs hx
      have hy := hq v c' W k2 k3 k4 (fun i hm => touch_mem (x := s) (by simp [ho, Op.operands, Call.operands, ha]) (k5 i hm)) k6
      unfold Oper.wp execOp
      simp only [ho, resolve, hcl, ha, ht]
      simp only [Sem.run_bind, Sem.run_pure, Result.andThen_ok, invoke, builtin, List.map_toArray, List.map_cons, List.map_nil, k1, Oper.upon_value]
      exact hy
    · -- a function's value
      rename_i gx hcl
      split at h
      case h_2 => cases h
      rename_i g first captured hg
      have hgx := hh'.rep gx (by simp [ho, Op.operands, Call.operands, hcl])
      rw [hg] at hgx
      simp only [Rep] at hgx
      obtain ⟨va, vb, hv, ra, rb⟩ := hgx
      have hr : RepL c (cl.args.toList.map ρ) (cl.args.toList.map a.eval) := RepL.map fun x hx => hh'.rep x (by simp [ho, Op.operands, Call.operands]; exact .inr (by simpa using hx))
      have hrep : RepL c (first ++ cl.args.toList.map ρ ++ captured) (va ++ cl.args.map a.eval ++ vb).toList := by
        simp only [Array.toList_append, Array.toList_map]
        exact (ra.append hr).append rb
      have hT : touch E o ρ H = callTouch (E.byref g) (first ++ cl.args.toList.map ρ ++ captured) H := by
        unfold touch callTouch
        rw [ho]
        simp only [hcl, hg]
      split at h
      · rename_i d H' hf
        injection h with h
        subst h
        have hC := full_sound hcall hi (by rw [← hT]; exact hh.hp) hn hf hrep
        intro next Q hq
        refine callX_wp hcl hv ho (CallX.mono hC fun e w' hh => ?_)
        obtain ⟨c', W, rfl, k1, k2, ⟨v, rfl, k3⟩, k4, k5⟩ := hh
        exact hq v c' W k1 k2 k3 (by rw [hT]; exact k4) k5
      · rename_i d H' hf
        injection h with h
        subst h
        have hC := full_sound hcall hi (by rw [← hT]; exact hh.hp) hn hf hrep
        intro next Q hq
        refine callX_wp hcl hv ho (CallX.mono hC fun e w' hh => ?_)
        obtain ⟨c', W, rfl, k1, k2, ⟨v, rfl, k3⟩, k4, k5⟩ := hh
        exact hq v c' W k1 k2 k3 (by rw [hT]; exact k4) k5
      · cases h
    · cases h
  · cases h

end
end Go.Cv
