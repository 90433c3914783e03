/- An operation that writes nothing, whole. -/
import Derived.Test.YtlfkhemmgkdjjaaGreatDoorCvOps6
set_option linter.unusedSimpArgs false
set_option linter.unusedVariables false
namespace Go.Cv
open Go.RowKit

section
variable {P : Program} {E : Env} {c : Ctx}

/-- An operation's weakest precondition: what it brings goes on. -/
def OpBrings (P : Program) (E : Env) (c : Ctx) (o : Oper) (a : Act) (d : D) (n : Nat) (new : List Ob) : Prop :=
  ∀ (next : Act → World → Prop) (Q : Exit → Act → World → Prop), (∀ v c', Step c c' → Inv E c' → Rep c' d v → New c.H c'.H n new → next (a.put o.dst v) c'.w) → o.wp P a c.w next Q

theorem Brings.op {s : Sem Value} {d : D} {n : Nat} {new : List Ob} (h : Brings P E c s d n new) {o : Oper} {a : Act} (hx : execOp a.eval o = s >>= fun x => pure (.value x)) : OpBrings P E c o a d n new := by
  intro next Q hn
  obtain ⟨v, c', h1, h2, h3, h4, h5⟩ := h
  unfold Oper.wp
  rw [hx]
  simp only [Sem.run_bind, h1, Result.andThen_ok, Sem.run_pure, Oper.upon_value]
  exact hn v c' h2 h3 h4 h5

/-- Which functions may be called at all. -/
def Callable (P : Program) (g : FuncId) : Prop := ∃ fn, P.funcs[g]? = some fn ∧ (fn.name == "runtime.NumGoroutine") = false ∧ fn.body.isSome = true

/-- A call of a function with a body; of one without, that the model answers for by a value. -/
def CallX (P : Program) (g : FuncId) (vs : Array Value) (w : World) (Q : Ending → World → Prop) : Prop :=
  (Callable P g ∧ Calls P g vs w Q) ∨ ((∃ fn, P.funcs[g]? = some fn ∧ fn.body = none) ∧ ∃ v, (callFunc g vs).run P w = .ok (.value v) w ∧ Q (.returned v) w)

theorem CallX.mono {g : FuncId} {vs : Array Value} {w : World} {Q Q' : Ending → World → Prop} (h : CallX P g vs w Q) (k : ∀ e w', Q e w' → Q' e w') : CallX P g vs w Q' := by
  rcases h with ⟨h1, h2⟩ | ⟨h0, v, h1, h2⟩
  · exact .inl ⟨h1, h2.mono k⟩
  · exact .inr ⟨h0, v, h1, k _ _ h2⟩

/-- A call that brings a value. -/
def CallBrings (P : Program) (E : Env) (c : Ctx) (g : FuncId) (vs : Array Value) (d : D) (n : Nat) (new : List Ob) : Prop :=
  CallX P g vs c.w fun e w' => ∃ v c', e = .returned v ∧ c'.w = w' ∧ Step c c' ∧ Inv E c' ∧ Rep c' d v ∧ New c.H c'.H n new

theorem callFunc_run {g : FuncId} {fn : Func} (h1 : P.funcs[g]? = some fn) (h2 : (fn.name == "runtime.NumGoroutine") = false) (h3 : fn.body.isSome = true) (vs : Array Value) (w : World) :
    (callFunc g vs).run P w = .ok (.enter g vs) w := by
  have h4 : ¬ fn.body = none := by cases hb : fn.body <;> simp_all
  have h5 : ¬ fn.name = "runtime.NumGoroutine" := by simpa using h2
  simp [callFunc, h1, h5, h4]

/-- A call of a function's value. -/
theorem call_run {cl : Call} {gx : Operand} (hc : cl.callee = .value gx) {a : Act} {g : FuncId} {va vb : Array Value} (hg : a.eval gx = .func (.func g) va vb) {fn : Func} (h1 : P.funcs[g]? = some fn) (h2 : (fn.name == "runtime.NumGoroutine") = false) (h3 : fn.body.isSome = true)
    {o : Oper} (ho : o.op = .call cl) (w : World) : (execOp a.eval o).run P w = .ok (.enter g (va ++ cl.args.map a.eval ++ vb)) w := by
  unfold execOp
  simp only [ho, resolve, hc, hg, Deferred.ofValue, Sem.run_bind, Sem.run_pure, Result.andThen_ok, invoke, callFunc_run h1 h2 h3]

theorem callX_wp {cl : Call} {gx : Operand} (hc : cl.callee = .value gx) {a : Act} {g : FuncId} {va vb : Array Value} (hg : a.eval gx = .func (.func g) va vb) {o : Oper} (ho : o.op = .call cl) {w : World}
    {next : Act → World → Prop} {Q : Exit → Act → World → Prop} (h : CallX P g (va ++ cl.args.map a.eval ++ vb) w fun
      | .returned v, w'' => next (a.put o.dst v) w''
      | .panicked chain, w'' => Q (.panic chain) a w''
      | .outgrown, _ => LetsOut Q) : o.wp P a w next Q := by
  unfold Oper.wp
  rcases h with ⟨⟨fn, h1, h2, h3⟩, h⟩ | ⟨_, v, h1, h2⟩
  · rw [call_run hc hg h1 h2 h3 ho, Oper.upon_enter]
    exact h
  · have : (execOp a.eval o).run P w = .ok (.value v) w := by
      unfold execOp
      simp only [ho, resolve, hc, hg, Deferred.ofValue, Sem.run_bind, Sem.run_pure, Result.andThen_ok, invoke, h1]
    rw [this, Oper.upon_value]
    exact h2

theorem RepL.map {ρ : Operand → D} {a : Act} {l : List Operand} (h : ∀ x ∈ l, Rep c (ρ x) (a.eval x)) : RepL c (l.map ρ) (l.map a.eval) := by
  refine RepL.of (by simp) fun i d u hd hu => ?_
  simp only [List.getElem?_map, Option.map_eq_some_iff] at hd hu
  obtain ⟨x, hx, rfl⟩ := hd
  obtain ⟨y, hy, rfl⟩ := hu
  rw [hx] at hy; injection hy with hy; subst hy
  exact h x (List.mem_of_getElem? hx)

theorem idsL_mem {l : List D} {id : Nat} (h : id ∈ idsL l) : ∃ d ∈ l, id ∈ ids d := by
  induction l with
  | nil => simp [idsL] at h
  | cons x l ih =>
    simp only [idsL, List.mem_append] at h
    rcases h with h | h
    · exact ⟨x, by simp, h⟩
    · obtain ⟨d, h1, h2⟩ := ih h; exact ⟨d, by simp [h1], h2⟩
theorem idsL_append (l m : List D) : idsL (l ++ m) = idsL l ++ idsL m := by
  induction l with
  | nil => rfl
  | cons x l ih => simp [idsL, ih]

theorem underIf {t : TypeId} {i : TI} (h : mkTI P t = some i) (hd : i.desc ≠ .iface) (hd2 : True) : True := trivial

theorem isBool_spec (hE : EnvOK P E) {t : TypeId} (h : isBool E t = true) : P.underlying t = some .bool := by
  unfold isBool at h
  split at h
  · rename_i ht
    obtain ⟨info, u, h1, h2, _, _, _, _, h7⟩ := mkTI_spec (hE.ti t _ ht)
    cases u <;> simp only [descTK] at h7 <;> first
      | exact h2
      | (cases h7; done)
      | (split at h7 <;> cases h7)
  · cases h

/-- What is known where an operation is carried out. -/
structure Here (c : Ctx) (ρ : Operand → D) (a : Act) (H : Heap) (l : List Operand) : Prop where
  rep : ∀ x ∈ l, Rep c (ρ x) (a.eval x)
  hp : ∀ x ∈ l, ∀ id ∈ ids (ρ x), ∀ ob, H[id]? = some ob → c.H id = some ob

theorem bound_of {ρ : Operand → D} {a : Act} {H : Heap} {l : List Operand} (h : Here c ρ a H l) (x : Option Operand) (hx : ∀ y, x = some y → y ∈ l) : Bound (c := c) (x.map ρ) (x.map a.eval) := by
  cases x with
  | none => exact .inl ⟨rfl, rfl⟩
  | some y => exact .inr ⟨_, _, rfl, rfl, h.rep y (hx y rfl)⟩

theorem map_one {α : Type} {x : Option α} {f : α → D} {d : D} {new : List Ob} (h : (x.map fun y => (f y, ([] : List Ob))) = some (d, new)) : x.map f = some d ∧ new = [] := by
  cases x with
  | none => cases h
  | some y => simp at h; exact ⟨by simp [h.1], h.2⟩
theorem map_v {x : Option D} {d : D} {new : List Ob} (h : (x.map fun y => (y, ([] : List Ob))) = some (d, new)) : x = some d ∧ new = [] := by
  cases x with
  | none => cases h
  | some y => simp at h; exact ⟨by simp [h.1], h.2⟩

theorem slice_op_gives (hi : Inv E c) (hE : EnvOK P E) {call : CallF} {f r i n : Nat} {o : Oper} {t : TypeId} {x : Operand} {lo hi' mx : Option Operand} (ho : o.op = .slice t x lo hi' mx) {ρ : Operand → D} {a : Act} {H : Heap} (hh : Here c ρ a H o.op.operands.toList) {d : D} {new : List Ob}
    (h : evPure E call f r i o ρ H n = some (d, new)) : Gives P c (Instr.sliceAt t (a.eval x) (lo.map a.eval) (hi'.map a.eval) (mx.map a.eval)) d ∧ new = [] := by
  simp only [ho, Op.operands] at hh
  simp only [evPure, ho] at h
  have bl := bound_of hh lo (by rintro y rfl; simp)
  have bh := bound_of hh hi' (by rintro y rfl; simp)
  have bm := bound_of hh mx (by rintro y rfl; simp)
  have hx := hh.rep x (by simp)
  have hpx := hh.hp x (by simp)
  split at h
  · rename_i ht
    split at h
    · rename_i s hs
      obtain ⟨h1, h2⟩ := map_v h
      rw [hs] at hx
      simp only [Rep] at hx
      rw [hx]
      exact ⟨slice_str_gives hE ht rfl h1 bl bh bm, h2⟩
    · cases h
  · rename_i e ht
    split at h
    case h_2 => cases h
    rename_i ei hei
    split at h
    · cases h
    rename_i hm
    have hnn : mx.map ρ ≠ none → hi'.map ρ ≠ none := by
      cases mx <;> cases hi' <;> simp at hm ⊢
    split at h
    · rename_i xs hs
      rw [hs] at hx
      split at h
      · rename_i hxs
        obtain ⟨h1, h2⟩ := map_v h
        exact ⟨slice_slc_gives hE ht rfl hei hxs h1 bl bh bm hnn hx, h2⟩
      · cases h
    · rename_i hs
      rw [hs] at hx
      obtain ⟨h1, h2⟩ := map_v h
      exact ⟨slice_emp_gives hE ht rfl hei h1 bl bh bm hnn hx, h2⟩
    · rename_i id m hs
      rw [hs] at hx hpx
      split at h
      · rename_i ob hob
        split at h
        · rename_i hxs
          obtain ⟨h1, h2⟩ := map_v h
          exact ⟨slice_arr_gives hi hE ht rfl hei (hpx id (by simp [ids])) (fun ob' h' => by rw [hob] at h'; injection h' with h'; subst h'; exact hxs) h1 bl bh bm hnn hx, h2⟩
        · cases h
      · cases h
    · cases h
  · cases h

theorem convert_op_gives (hi : Inv E c) (hE : EnvOK P E) {call : CallF} {f r i n : Nat} {o : Oper} {s t : TypeId} {x : Operand} (ho : o.op = .convert s t x) {ρ : Operand → D} {a : Act} {H : Heap} (hh : Here c ρ a H o.op.operands.toList) {d : D} {new : List Ob}
    (h : evPure E call f r i o ρ H n = some (d, new)) : Gives P c (convert s t (a.eval x)) d ∧ new = [] := by
  simp only [ho, Op.operands] at hh
  simp only [evPure, ho] at h
  have hx := hh.rep x (by simp)
  have hpx := hh.hp x (by simp)
  split at h
  · rename_i h1 h2 h3
    injection h with h
    simp only [Prod.mk.injEq] at h
    obtain ⟨rfl, rfl⟩ := h
    rw [h3] at hx
    simp only [Rep] at hx
    rw [hx]
    exact ⟨conv_int_gives hE h1 h2 rfl, rfl⟩
  · rename_i h1 h2 h3
    injection h with h
    simp only [Prod.mk.injEq] at h
    obtain ⟨rfl, rfl⟩ := h
    rw [h3] at hx
    simp only [Rep] at hx
    rw [hx]
    exact ⟨conv_str_gives hE h1 h2 rfl, rfl⟩
  · rename_i h1 h2 h3
    split at h
    · rename_i h4
      split at h
      · rename_i rows h5
        obtain ⟨h6, h7⟩ := map_v h
        cases h8 : bytesOfRows rows with
        | none => rw [h8] at h6; cases h6
        | some bs =>
          rw [h8] at h6
          injection h6 with h6
          subst h6
          exact ⟨conv_bytes_gives hi hE h1 rfl h4 rfl h2 rfl hpx h5 h8 hx, h7⟩
      · cases h
    · cases h
  · cases h

theorem indexAddr_op_gives (hi : Inv E c) (hE : EnvOK P E) {call : CallF} {f r i n : Nat} {o : Oper} {t : TypeId} {x ix : Operand} (ho : o.op = .indexAddr t x ix) {ρ : Operand → D} {a : Act} {H : Heap} (hh : Here c ρ a H o.op.operands.toList) {d : D} {new : List Ob}
    (h : evPure E call f r i o ρ H n = some (d, new)) : Gives P c (Instr.indexAt t (a.eval x) (a.eval ix)) d ∧ new = [] := by
  simp only [ho, Op.operands] at hh
  simp only [evPure, ho] at h
  have hx := hh.rep x (by simp)
  have hix := hh.rep ix (by simp)
  have hpx := hh.hp x (by simp)
  split at h
  case h_2 => cases h
  rename_i e k j ht hj
  rw [hj] at hix
  simp only [Rep] at hix
  rw [hix]
  split at h
  case h_2 => cases h
  rename_i ei hei
  split at h
  · cases h
  rename_i h0
  split at h
  · rename_i xs hs
    split at h
    case h_2 => cases h
    rename_i cells hcl
    split at h
    case isFalse => cases h
    rename_i hl
    injection h with h
    simp only [Prod.mk.injEq] at h
    obtain ⟨rfl, rfl⟩ := h
    rw [hs] at hx
    exact ⟨indexAddr_slc_gives hE ht rfl hei h0 hcl (by simpa using hl) hx, rfl⟩
  · rename_i id m hs
    rw [hs] at hx hpx
    split at h
    case h_2 => cases h
    rename_i ob hob
    split at h
    case isFalse => cases h
    rename_i hm
    simp only [Bool.and_eq_true, beq_iff_eq, decide_eq_true_eq] at hm
    split at h
    case h_2 => cases h
    rename_i row hrow
    split at h
    case isFalse => cases h
    rename_i hl
    injection h with h
    simp only [Prod.mk.injEq] at h
    obtain ⟨rfl, rfl⟩ := h
    exact ⟨indexAddr_arr_gives hi hE ht rfl hei (hpx id (by simp [ids]) ob hob) hm.1 h0 hrow (by simpa using hl) hx, rfl⟩
  · cases h

theorem len_op_gives (hi : Inv E c) (hE : EnvOK P E) {t ty : TypeId} {x : D} {v : Value} {H : Heap} (hx : Rep c x v) (hpx : ∀ id ∈ ids x, ∀ ob, H[id]? = some ob → c.H id = some ob) (hl : lenOK E H t x = true) {n : Nat} (h : lenD x = some n) :
    Gives P c (Builtin.len_ #[t] ty #[v]) (.int .i64 n) := by
  unfold lenOK at hl
  split at hl
  · rename_i ht
    have hu := under_str (hE.ti t _ ht) rfl
    split at hl
    · exact len_gives h hx hu (.inr rfl) ⟨fun _ => rfl, fun _ => ⟨_, rfl⟩⟩ (fun id m e => by cases e) (fun id m a b e => by cases e)
    · cases hl
  · rename_i e ht
    have hu := under_slice (hE.ti t _ ht) rfl
    split at hl
    · exact len_gives h hx hu (.inl ⟨_, rfl⟩) ⟨fun ⟨_, e⟩ => (by cases e), fun e => (by cases e)⟩ (fun id m e => by cases e) (fun id m a b e => by cases e)
    · exact len_gives h hx hu (.inl ⟨_, rfl⟩) ⟨fun ⟨_, e⟩ => (by cases e), fun e => (by cases e)⟩ (fun id m e => by cases e) (fun id m a b e => by cases e)
    · rename_i id m
      split at hl
      · rename_i ob hob
        exact len_gives h hx hu (.inl ⟨_, rfl⟩) ⟨fun ⟨_, e⟩ => (by cases e), fun e => (by cases e)⟩
          (fun id' m' e => by injection e with e1 e2; subst e1 e2; exact ⟨ob, hpx id (by simp [ids]) ob hob, by simpa using hl⟩) (fun id m a b e => by cases e)
      · cases hl
    · rename_i id m lo hi'
      split at hl
      · rename_i ob hob
        exact len_gives h hx hu (.inl ⟨_, rfl⟩) ⟨fun ⟨_, e⟩ => (by cases e), fun e => (by cases e)⟩
          (fun id m e => by cases e) (fun id' m' a b e => by injection e with e1 e2; subst e1 e2; exact ⟨ob, hpx id (by simp [ids]) ob hob, by simpa using hl⟩)
      · cases hl
    · cases hl
  · cases hl

end
end Go.Cv
