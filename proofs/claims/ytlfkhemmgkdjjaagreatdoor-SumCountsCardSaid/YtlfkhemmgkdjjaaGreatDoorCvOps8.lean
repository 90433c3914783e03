/- An operation that writes nothing: all of them. -/
import Derived.Test.YtlfkhemmgkdjjaaGreatDoorCvOps7
set_option linter.unusedSimpArgs false
set_option linter.unusedVariables false
namespace Go.Cv
open Go.RowKit

section
variable {P : Program} {E : Env} {c : Ctx}

/-- What a pure call is worth. -/
def PureOK (P : Program) (E : Env) (call : CallF) : Prop :=
  ∀ (c : Ctx) (H : Heap) (plain : Bool) (g : FuncId) (args : List D) (vs : Array Value) (n : Nat) (d : D) (new : List Ob), Inv E c → callPure call plain g args H n = some (d, new) → RepL c args vs.toList →
    (∀ id ∈ idsL args, ∀ ob, H[id]? = some ob → c.H id = some ob) → (∀ j, j < new.length → c.H (n + j) = none) → CallBrings P E c g vs d n new

theorem pure_sound (hi : Inv E c) (hE : EnvOK P E) {call : CallF} (hcall : PureOK P E call) {f r i n : Nat} {o : Oper} {ρ : Operand → D} {a : Act} {H : Heap} (hh : Here c ρ a H o.op.operands.toList) {d : D} {new : List Ob}
    (hn : ∀ j, j < new.length → c.H (n + j) = none) (h : evPure E call f r i o ρ H n = some (d, new)) : OpBrings P E c o a d n new := by
  have h' := h
  unfold evPure at h
  simp only at h
  split at h
  · -- move
    rename_i x ho
    injection h with h
    simp only [Prod.mk.injEq] at h
    obtain ⟨rfl, rfl⟩ := h
    have hx := hh.rep x (by simp [ho, Op.operands])
    intro next Q hq
    unfold Oper.wp execOp
    simp only [ho, Sem.run_pure, Oper.upon_value]
    exact hq _ c (Step.refl c) hi hx (New.nil _ _)
  · rename_i x ho
    injection h with h
    simp only [Prod.mk.injEq] at h
    obtain ⟨rfl, rfl⟩ := h
    have hx := hh.rep x (by simp [ho, Op.operands])
    intro next Q hq
    unfold Oper.wp execOp
    simp only [ho, Sem.run_pure, Oper.upon_value]
    exact hq _ c (Step.refl c) hi hx (New.nil _ _)
  · -- pick
    rename_i cc x y ho
    split at h
    case h_2 => cases h
    rename_i b hb
    injection h with h
    simp only [Prod.mk.injEq] at h
    obtain ⟨rfl, rfl⟩ := h
    have hc := hh.rep cc (by simp [ho, Op.operands])
    rw [hb] at hc
    simp only [Rep] at hc
    have hx := hh.rep x (by simp [ho, Op.operands])
    have hy := hh.rep y (by simp [ho, Op.operands])
    intro next Q hq
    unfold Oper.wp execOp
    simp only [ho, hc, asBool, Sem.run_bind, Sem.run_pure, Result.andThen_ok, Oper.upon_value]
    refine hq _ c (Step.refl c) hi ?_ (New.nil _ _)
    cases b
    · simpa using hy
    · simpa using hx
  · -- alloc
    rename_i t ho
    split at h
    case h_2 => cases h
    rename_i ti ht
    split at h
    case isFalse => cases h
    rename_i hc
    injection h with h
    simp only [Prod.mk.injEq] at h
    obtain ⟨rfl, rfl⟩ := h
    exact (alloc_brings hi hE ht hc.1 hc.2.1 hc.2.2 (by simpa using hn 0 (by simp))).op (by unfold execOp; simp only [ho])
  · -- box
    rename_i t x ho
    split at h
    case isFalse => cases h
    rename_i hc
    injection h with h
    simp only [Prod.mk.injEq] at h
    obtain ⟨rfl, rfl⟩ := h
    exact (box_brings hi (hh.rep x (by simp [ho, Op.operands])) hc t (by simpa using hn 0 (by simp))).op (by unfold execOp; simp only [ho])
  · -- build
    rename_i t parts ho
    split at h
    case h_2 => cases h
    rename_i ti ht
    split at h
    case h_2 => cases h
    rename_i fs hd
    split at h
    case isTrue => cases h
    rename_i hz
    obtain ⟨h1, rfl⟩ := map_v h
    cases h2 : fillD (fun j => (fs[j]?).map fun p => (p.1, p.2.1)) ti.zero (parts.toList.map fun p => (p.1, ρ p.2)) with
    | none => rw [h2] at h1; cases h1
    | some cells =>
      rw [h2] at h1
      injection h1 with h1
      subst h1
      have hg := build_gives hE ht hd (by omega) (by omega) (a := a) (fun q hq => hh.rep q.2 (by simp [ho, Op.operands]; exact ⟨q.1, by simpa using hq⟩)) h2
      exact (hg.brings hi n).op (by unfold execOp; simp only [ho])
  · -- buildSlice
    rename_i t len parts ho
    split at h
    case h_2 => cases h
    rename_i e ht
    split at h
    case h_2 => cases h
    rename_i ei hei
    split at h
    case isTrue => cases h
    rename_i hc
    split at h
    case h_2 => cases h
    rename_i rows hrows
    have hl : ei.zero.all leaf = true := by
      cases hq : ei.zero.all leaf
      · exact absurd (.inr (.inr (.inr (by simp [hq])))) hc
      · rfl
    have hkn : c.H n = none ∨ c.H n ≠ none := by
      by_cases hq : c.H n = none
      · exact .inl hq
      · exact .inr hq
    refine (buildSlice_brings hi hE ht hei (by omega) (by omega) (by omega) hl (a := a) (fun q hq => hh.rep q.2 (by simp [ho, Op.operands]; exact ⟨q.1, by simpa using hq⟩)) hrows (kp := E.keep f r i) (H := H) ?_ h).op (by unfold execOp; simp only [ho])
    intro hnew
    have := hn 0 hnew
    simpa using this
  · -- makeSlice
    rename_i t l cp ho
    split at h
    case h_2 => cases h
    rename_i e k1 ln k2 cn ht hln hcn
    split at h
    case h_2 => cases h
    rename_i ei hei
    split at h
    case isFalse => cases h
    rename_i hc
    injection h with h
    simp only [Prod.mk.injEq] at h
    obtain ⟨rfl, rfl⟩ := h
    have hl := hh.rep l (by simp [ho, Op.operands])
    have hc' := hh.rep cp (by simp [ho, Op.operands])
    rw [hln] at hl
    rw [hcn] at hc'
    simp only [Rep] at hl hc'
    obtain ⟨q1, q2, q3, q4, q5, q6⟩ := hc
    obtain rfl : ln = cn := q1
    obtain ⟨m, rfl⟩ : ∃ m : Nat, ln = m := ⟨ln.toNat, by omega⟩
    simp only [Int.toNat_natCast] at hn q3 ⊢
    refine (makeSlice_brings hi hE ht hei q4 q5 (List.all_eq_true.2 fun x hx => List.all_eq_true.1 q6 x hx) q3 (by simpa using hn 0 (by simp)) (k1 := k1) (k2 := k2)).op (by unfold execOp; simp only [ho, hl, hc'])
  · -- load
    rename_i t x ho
    obtain ⟨h1, rfl⟩ := map_v h
    exact ((load_gives hi hE (hh.hp x (by simp [ho, Op.operands])) h1 (hh.rep x (by simp [ho, Op.operands]))).brings hi n).op (by unfold execOp; simp only [ho])
  · -- nilCheck
    rename_i x ho
    have hx := hh.rep x (by simp [ho, Op.operands])
    split at h
    · rename_i p q s t hp
      injection h with h
      simp only [Prod.mk.injEq] at h
      obtain ⟨rfl, rfl⟩ := h
      rw [hp] at hx
      obtain ⟨ad, had⟩ := nilCheck_gives hx (.inl ⟨_, _, _, _, rfl⟩)
      intro next Q hq
      unfold Oper.wp execOp
      simp only [ho, had, Sem.run_pure, Oper.upon_value]
      exact hq _ c (Step.refl c) hi (by rw [← had]; exact hx) (New.nil _ _)
    · rename_i p q hp
      injection h with h
      simp only [Prod.mk.injEq] at h
      obtain ⟨rfl, rfl⟩ := h
      rw [hp] at hx
      obtain ⟨ad, had⟩ := nilCheck_gives hx (.inr ⟨_, _, rfl⟩)
      intro next Q hq
      unfold Oper.wp execOp
      simp only [ho, had, Sem.run_pure, Oper.upon_value]
      exact hq _ c (Step.refl c) hi (by rw [← had]; exact hx) (New.nil _ _)
    · cases h
  · -- binOp
    rename_i op t x y u ho
    obtain ⟨h1, rfl⟩ := map_v h
    split at h1
    · rename_i d' hb
      injection h1 with h1
      subst h1
      exact ((binD_gives hb (hh.rep x (by simp [ho, Op.operands])) (hh.rep y (by simp [ho, Op.operands])) (fun hb => isBool_spec hE hb) x y).brings hi n).op (by unfold execOp; simp only [ho])
    · split at h1
      case h_2 => cases h1
      rename_i ti hti
      exact ((nilD_gives (px := x) (hE.ti t ti hti) h1 (hh.rep x (by simp [ho, Op.operands])) (hh.rep y (by simp [ho, Op.operands])) (fun v hv => by rw [hv]; rfl)).brings hi n).op (by unfold execOp; simp only [ho])
  · -- unOp
    rename_i op t x ho
    obtain ⟨h1, rfl⟩ := map_v h
    exact ((unD_gives h1 (hh.rep x (by simp [ho, Op.operands]))).brings hi n).op (by unfold execOp; simp only [ho])
  · -- convert
    rename_i s t x ho
    obtain ⟨h1, rfl⟩ := convert_op_gives hi hE ho hh h'
    exact (h1.brings hi n).op (by unfold execOp; simp only [ho])
  · -- makeInterface
    rename_i t x ho
    split at h
    · cases h
    · rename_i ti hne ht
      injection h with h
      simp only [Prod.mk.injEq] at h
      obtain ⟨rfl, rfl⟩ := h
      exact ((makeIface_gives hE ht (fun e => by
        obtain ⟨a1, a2, a3, a4, a5⟩ := ti
        simp only at e
        subst e
        exact hne _ _ _ _ rfl) (hh.rep x (by simp [ho, Op.operands]))).brings hi n).op (by unfold execOp; simp only [ho])
    · cases h
  · -- makeFunc
    rename_i fn first captured ho
    injection h with h
    simp only [Prod.mk.injEq] at h
    obtain ⟨rfl, rfl⟩ := h
    have hg : Gives P c (Instr.makeFunc fn (first.map a.eval) (captured.map a.eval)) (.fn fn (first.toList.map ρ) (captured.toList.map ρ)) := by
      refine ⟨.func fn (first.map a.eval) (captured.map a.eval), by simp [Instr.makeFunc], ?_⟩
      simp only [Rep]
      refine ⟨_, _, rfl, ?_, ?_⟩
      · rw [Array.toList_map]
        exact RepL.map fun x hx => hh.rep x (by simp [ho, Op.operands]; exact .inl (by simpa using hx))
      · rw [Array.toList_map]
        exact RepL.map fun x hx => hh.rep x (by simp [ho, Op.operands]; exact .inr (by simpa using hx))
    exact (hg.brings hi n).op (by unfold execOp; simp only [ho])
  · -- slice
    rename_i t x lo hi' mx ho
    obtain ⟨h1, rfl⟩ := slice_op_gives hi hE ho hh h'
    exact (h1.brings hi n).op (by unfold execOp; simp only [ho])
  · -- fieldAddr
    rename_i s x fi ho
    have hx := hh.rep x (by simp [ho, Op.operands])
    split at h
    case h_2 => cases h
    rename_i ti ht
    split at h
    case h_2 => cases h
    rename_i off size ag hp
    split at h
    · cases h
    rename_i hs
    have hg : Gives P c (Instr.fieldAt s (a.eval x) fi) d ∧ new = [] := by
      generalize ρ x = y at h hx
      cases y <;> simp only [Option.some.injEq, Prod.mk.injEq] at h <;> first
        | (cases h; done)
        | (obtain ⟨h1, rfl⟩ := h; exact ⟨fieldAddr_gives hE ht hp hs hx (by rw [← h1]), rfl⟩)
    obtain ⟨h1, rfl⟩ := hg
    exact (h1.brings hi n).op (by unfold execOp; simp only [ho])
  · -- field
    rename_i s x fi ho
    have hx := hh.rep x (by simp [ho, Op.operands])
    split at h
    case h_2 => cases h
    rename_i ti ht
    split at h
    case h_2 => cases h
    rename_i off size ag cs hp hcs
    rw [hcs] at hx
    split at h
    case isFalse => cases h
    rename_i hle
    have hk : (if ag then some (D.agg ((cs.drop off).take size)) else cs[off]?) = some d ∧ new = [] := by
      cases ag
      · simp only [Bool.false_eq_true, if_false] at h ⊢
        exact map_v h
      · simp only [if_true, Option.some.injEq, Prod.mk.injEq] at h ⊢
        exact ⟨h.1, h.2.symm⟩
    obtain ⟨h1, rfl⟩ := hk
    exact ((field_gives hE ht hp hx hle h1).brings hi n).op (by unfold execOp; simp only [ho])
  · -- indexAddr
    rename_i t x ix ho
    obtain ⟨h1, rfl⟩ := indexAddr_op_gives hi hE ho hh h'
    exact (h1.brings hi n).op (by unfold execOp; simp only [ho])
  · -- index
    rename_i t x ix ho
    have hx := hh.rep x (by simp [ho, Op.operands])
    have hix := hh.rep ix (by simp [ho, Op.operands])
    split at h
    case h_2 => cases h
    rename_i s k j ht hs hj
    rw [hs] at hx
    rw [hj] at hix
    simp only [Rep] at hx hix
    split at h
    · cases h
    rename_i h0
    obtain ⟨h1, rfl⟩ := map_v h
    have := index_gives (c := c) hE ht rfl h0 h1 (k := k)
    rw [← hx, ← hix] at this
    exact (this.brings hi n).op (by unfold execOp; simp only [ho])
  · -- extract
    rename_i x j ho
    have hx := hh.rep x (by simp [ho, Op.operands])
    split at h
    case h_2 => cases h
    rename_i ds hds
    obtain ⟨h1, rfl⟩ := map_v h
    exact ((extract_gives hds h1 hx).brings hi n).op (by unfold execOp; simp only [ho])
  · -- call
    rename_i cl ho
    split at h
    · -- len
      rename_i hcl
      split at h
      case h_2 => cases h
      rename_i x t hargs hts
      split at h
      case isFalse => cases h
      rename_i hok
      have ha : cl.args = #[x] := by rw [← Array.toList_inj]; exact hargs
      have ht : cl.argTypes = #[t] := by rw [← Array.toList_inj]; exact hts
      have hx := hh.rep x (by simp [ho, Op.operands, Call.operands, ha])
      have hpx := hh.hp x (by simp [ho, Op.operands, Call.operands, ha])
      obtain ⟨h1, rfl⟩ := map_v h
      cases hln : lenD (ρ x) with
      | none => rw [hln] at h1; cases h1
      | some m =>
        rw [hln] at h1
        injection h1 with h1
        subst h1
        have hg := len_op_gives (ty := o.type) hi hE hx hpx hok hln
        refine (hg.brings hi n).op ?_
        unfold execOp
        simp only [ho, resolve, hcl, ha, ht]
        simp [invoke, builtin]
    · -- min
      rename_i hcl
      split at h
      case h_2 => cases h
      rename_i d0 l hargs
      obtain ⟨h1, rfl⟩ := map_v h
      have hr : RepL c (cl.args.toList.map ρ) (cl.args.toList.map a.eval) := RepL.map fun x hx => hh.rep x (by simp [ho, Op.operands, Call.operands]; exact .inr (by simpa using hx))
      rw [hargs] at hr
      simp only [RepL] at hr
      obtain ⟨u, us, hus, hr1, hr2⟩ := hr
      obtain ⟨res, r1, r2⟩ := min_run l d0 us u d h1 hr1 hr2 (P := P)
      have hg : Gives P c (Builtin.min_ cl.argTypes o.type (cl.args.map a.eval)) d := by
        refine ⟨res, ?_, r2⟩
        unfold Builtin.min_
        rw [Array.toList_map, hus]
        exact r1
      refine (hg.brings hi n).op ?_
      unfold execOp
      simp only [ho, resolve, hcl]
      simp [invoke, builtin]
    · -- max
      rename_i hcl
      split at h
      case h_2 => cases h
      rename_i d0 l hargs
      obtain ⟨h1, rfl⟩ := map_v h
      have hr : RepL c (cl.args.toList.map ρ) (cl.args.toList.map a.eval) := RepL.map fun x hx => hh.rep x (by simp [ho, Op.operands, Call.operands]; exact .inr (by simpa using hx))
      rw [hargs] at hr
      simp only [RepL] at hr
      obtain ⟨u, us, hus, hr1, hr2⟩ := hr
      obtain ⟨res, r1, r2⟩ := max_run l d0 us u d h1 hr1 hr2 (P := P)
      have hg : Gives P c (Builtin.max_ cl.argTypes o.type (cl.args.map a.eval)) d := by
        refine ⟨res, ?_, r2⟩
        unfold Builtin.max_
        rw [Array.toList_map, hus]
        exact r1
      refine (hg.brings hi n).op ?_
      unfold execOp
      simp only [ho, resolve, hcl]
      simp [invoke, builtin]
    · -- a function's value
      rename_i gx hcl
      split at h
      case h_2 => cases h
      rename_i g first captured hg
      have hgx := hh.rep gx (by simp [ho, Op.operands, Call.operands, hcl])
      rw [hg] at hgx
      simp only [Rep] at hgx
      obtain ⟨va, vb, hv, ra, rb⟩ := hgx
      have hr : RepL c (cl.args.toList.map ρ) (cl.args.toList.map a.eval) := RepL.map fun x hx => hh.rep x (by simp [ho, Op.operands, Call.operands]; exact .inr (by simpa using hx))
      have hrep : RepL c (first ++ cl.args.toList.map ρ ++ captured) (va ++ cl.args.map a.eval ++ vb).toList := by
        simp only [Array.toList_append, Array.toList_map]
        exact (ra.append hr).append rb
      have hids : ∀ id ∈ idsL (first ++ cl.args.toList.map ρ ++ captured), ∀ ob, H[id]? = some ob → c.H id = some ob := fun id hid => by
        rw [idsL_append, idsL_append, List.mem_append, List.mem_append] at hid
        rcases hid with (hid | hid) | hid
        · exact hh.hp gx (by simp [ho, Op.operands, Call.operands, hcl]) id (by rw [hg]; simp [ids, hid])
        · obtain ⟨x, hx, hx2⟩ := idsL_mem hid
          obtain ⟨y, hy, rfl⟩ := List.mem_map.1 hx
          exact hh.hp y (by simp [ho, Op.operands, Call.operands]; exact .inr (by simpa using hy)) id hx2
        · exact hh.hp gx (by simp [ho, Op.operands, Call.operands, hcl]) id (by rw [hg]; simp [ids, hid])
      have hC := hcall c H _ g _ _ n d new hi h hrep hids hn
      intro next Q hq
      refine callX_wp hcl hv ho (CallX.mono hC fun e w' hh => ?_)
      obtain ⟨v, c', rfl, rfl, k1, k2, k3, k4⟩ := hh
      exact hq v c' k1 k2 k3 k4
    · cases h
  · cases h

end
end Go.Cv
