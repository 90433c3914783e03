/- The invariant of a world that is seen through pure values, its steps; what the program's types tell; operations that leave the world alone. -/
import Derived.Test.YtlfkhemmgkdjjaaGreatDoorCvRep
namespace Go.Cv
open Go.RowKit

/-- An object as it lies in memory. -/
structure ObInv (c : Ctx) (id : Nat) (ob : Ob) : Prop where
  blk : ∃ cur T fz, c.w.heap[c.η id]? = some (.cells cur T fz) ∧ c.κ id * c.σ id ≤ cur.size ∧ (∀ o, o < cur.size → c.w.frozen? ⟨c.η id, o, none⟩ = false) ∧ fz = (0, 0)
  len : ob.xs.length ≤ c.κ id
  cap : c.κ id ≤ maxLen
  row : ∀ i x, ob.xs[i]? = some x → x.length = c.σ id ∧ ∀ j d, x[j]? = some d → leaf d = true ∧ ∃ u, c.w.cell? ⟨c.η id, i * c.σ id + j, none⟩ = some u ∧ Rep c d u
  res : ∀ o, ob.sh * c.σ id ≤ o → c.R (c.η id) o
  unr : ∀ o, o < ob.sh * c.σ id → ¬ c.R (c.η id) o
  shd : ∀ i x, ob.xs[i]? = some x → i < ob.sh → idFreeL x = true
  sh : ob.sh ≤ ob.xs.length
  emp : ob.xs = [] → c.κ id = 0

structure Inv (E : Env) (c : Ctx) : Prop where
  inj : ∀ i j oi oj, c.H i = some oi → c.H j = some oj → c.η i = c.η j → i = j
  new : ∀ b o, c.w.heap.size ≤ b → ¬ c.R b o
  ob : ∀ id ob, c.H id = some ob → ObInv c id ob
  glob : ∀ g cells, E.glob g = some cells → RepCells c cells g 0

/-- A step of the world. -/
structure Step (c c' : Ctx) : Prop where
  le : Le c c'
  os : c'.w.os = c.w.os
  tape : c'.w.tape = c.w.tape
  output : c'.w.output = c.w.output
  size : c.w.heap.size ≤ c'.w.heap.size
  frame : ∀ b, b < c.w.heap.size → (∀ i ob, c.H i = some ob → c.η i ≠ b) → c'.w.heap[b]? = c.w.heap[b]? ∧ ∀ o, c'.R b o ↔ c.R b o
  fresh : ∀ id ob', c'.H id = some ob' → (∃ ob, c.H id = some ob ∧ c'.η id = c.η id) ∨ c.w.heap.size ≤ c'.η id

theorem Step.refl (c : Ctx) : Step c c := ⟨Le.refl c, rfl, rfl, rfl, Nat.le_refl _, fun _ _ _ => ⟨rfl, fun _ => Iff.rfl⟩, fun id ob h => .inl ⟨ob, h, rfl⟩⟩
theorem Step.trans {a b c : Ctx} (h : Step a b) (k : Step b c) : Step a c := by
  refine ⟨h.le.trans k.le, k.os.trans h.os, k.tape.trans h.tape, k.output.trans h.output, Nat.le_trans h.size k.size, fun x hx hn => ?_, fun id ob ho => ?_⟩
  · have h1 := h.frame x hx hn
    have h2 := k.frame x (Nat.lt_of_lt_of_le hx h.size) (fun id ob ho => by
      rcases h.fresh id ob ho with ⟨o0, h0, e⟩ | h0
      · rw [e]; exact hn id o0 h0
      · omega)
    exact ⟨h2.1.trans h1.1, fun o => (h2.2 o).trans (h1.2 o)⟩
  · rcases k.fresh id ob ho with ⟨o1, h1, e⟩ | h1
    · rcases h.fresh id o1 h1 with ⟨o0, h0, e0⟩ | h0
      · exact .inl ⟨o0, h0, e.trans e0⟩
      · exact .inr (by rw [e]; exact h0)
    · exact .inr (Nat.le_trans h.size h1)

/-! ### Types -/
structure TiOK (P : Program) (t : TypeId) (i : TI) : Prop where
  of : mkTI P t = some i

/-- What the tables of a program are worth. -/
structure EnvOK (P : Program) (E : Env) : Prop where
  ti : ∀ t i, E.ti t = some i → mkTI P t = some i
  code : ∀ f fn, E.code f = some fn → P.funcs[f]? = some fn ∧ (fn.name == "runtime.NumGoroutine") = false
  mixed : P.follows .mixedOrders = true
  drawn : ∀ f fn c, E.code f = some fn → fn.body = some c → drawnC E f c = true

def descTK (P : Program) (u : TypeDesc) : TK :=
  match u with
  | .string => .str
  | .int k => .int k
  | .slice e => .slice e
  | .struct fs => if fs.toList.all (fun f => (P.info? f.type).isSome && (P.underlying f.type).isSome) then .struct (fs.toList.map fun f => (f.offset, P.cellsOf f.type, match P.underlying f.type with | some (.struct _) | some (.array _ _) => true | _ => false)) else .other
  | .interface _ => .iface
  | .bool => .bool
  | .pointer e => .ptr e
  | _ => .other

theorem mkTI_spec {P : Program} {t : TypeId} {i : TI} (h : mkTI P t = some i) :
    ∃ info u, P.info? t = some info ∧ P.underlying t = some u ∧ i.size = info.size ∧ i.bytes = info.bytes ∧
      i.agg = (match u with | .struct _ | .array _ _ => true | _ => false) ∧ i.zero = (match info.zero with | some z => z.cells.toList.map ofVal0 | none => []) ∧ i.desc = descTK P u := by
  unfold mkTI at h
  split at h
  · rename_i info u h1 h2
    injection h with h
    subst h
    exact ⟨info, u, h1, h2, rfl, rfl, rfl, rfl, by cases u <;> rfl⟩
  · cases h

theorem under_str {P : Program} {t : TypeId} {i : TI} (h : mkTI P t = some i) (hd : i.desc = .str) : P.underlying t = some .string := by
  obtain ⟨info, u, h1, h2, _, _, _, _, h7⟩ := mkTI_spec h
  rw [hd] at h7
  cases u <;> simp only [descTK] at h7 <;> first
    | exact h2
    | (cases h7; done)
    | (split at h7 <;> cases h7)
theorem under_int {P : Program} {t : TypeId} {i : TI} {k : IntKind} (h : mkTI P t = some i) (hd : i.desc = .int k) : P.underlying t = some (.int k) := by
  obtain ⟨info, u, h1, h2, _, _, _, _, h7⟩ := mkTI_spec h
  rw [hd] at h7
  cases u <;> simp only [descTK] at h7 <;> first
    | (injection h7 with h7; subst h7; exact h2)
    | (cases h7; done)
    | (split at h7 <;> cases h7)
theorem under_slice {P : Program} {t : TypeId} {i : TI} {e : TypeId} (h : mkTI P t = some i) (hd : i.desc = .slice e) : P.underlying t = some (.slice e) := by
  obtain ⟨info, u, h1, h2, _, _, _, _, h7⟩ := mkTI_spec h
  rw [hd] at h7
  cases u <;> simp only [descTK] at h7 <;> first
    | (injection h7 with h7; subst h7; exact h2)
    | (cases h7; done)
    | (split at h7 <;> cases h7)
theorem under_ptr {P : Program} {t : TypeId} {i : TI} {e : TypeId} (h : mkTI P t = some i) (hd : i.desc = .ptr e) : P.underlying t = some (.pointer e) := by
  obtain ⟨info, u, h1, h2, _, _, _, _, h7⟩ := mkTI_spec h
  rw [hd] at h7
  cases u <;> simp only [descTK] at h7 <;> first
    | (injection h7 with h7; subst h7; exact h2)
    | (cases h7; done)
    | (split at h7 <;> cases h7)
theorem under_struct {P : Program} {t : TypeId} {i : TI} {fs : List (Nat × Nat × Bool)} (h : mkTI P t = some i) (hd : i.desc = .struct fs) :
    ∃ gs, P.underlying t = some (.struct gs) ∧ (∀ f ∈ gs.toList, (P.info? f.type).isSome = true ∧ (P.underlying f.type).isSome = true) ∧ fs = gs.toList.map fun f => (f.offset, P.cellsOf f.type, match P.underlying f.type with | some (.struct _) | some (.array _ _) => true | _ => false) := by
  obtain ⟨info, u, h1, h2, _, _, _, _, h7⟩ := mkTI_spec h
  rw [hd] at h7
  cases u <;> simp only [descTK] at h7 <;> first
    | (cases h7; done)
    | (split at h7
       · rename_i hall
         injection h7 with h7
         exact ⟨_, h2, fun f hf => by simpa using List.all_eq_true.1 hall f hf, h7⟩
       · cases h7)

/-! ### Constants, operands -/
theorem rep_ofVal0 (c : Ctx) (v : Value) : Rep c (ofVal0 v) v := by
  unfold ofVal0
  split <;> simp [Rep]

theorem rep_ofVal (c : Ctx) (v : Value) : Rep c (ofVal v) v := by
  unfold ofVal
  split
  · rename_i cs
    simp only [Rep]
    refine ⟨cs, rfl, RepL.of (by simp) fun i d u hd hu => ?_⟩
    simp only [List.getElem?_map, Option.map_eq_some_iff] at hd
    obtain ⟨x, hx, rfl⟩ := hd
    rw [hx] at hu
    injection hu with hu
    subst hu
    exact rep_ofVal0 c x
  · exact rep_ofVal0 c v

/-- The temporaries, as they are told. -/
def TRep (c : Ctx) (T : Ts) (tmps : Array Value) : Prop :=
  tmps.size = T.n ∧ (∀ i, i < T.n → Rep c (T.get i) (tmps.getD i undef)) ∧ ∀ i, T.n ≤ i → T.get i = .top

theorem beqT {n m : Nat} (h : n = m) : Nat.beq n m = true := by subst h; exact Nat.beq_refl n
theorem beqF {n m : Nat} (h : n ≠ m) : Nat.beq n m = false := by
  cases hb : Nat.beq n m
  · rfl
  · exact absurd (Nat.eq_of_beq_eq_true hb) h

theorem Tm.get_set_eq : (t : Tm) → (i : Nat) → (d : D) → (t.set i d).get i = d ∨ (t.set i d).get i = .top
  | .nil, i, d => .inr rfl
  | .node v l r, i, d => by
    by_cases hi : i = 0
    · left; simp only [Tm.set, beqT hi, cond_true, Tm.get]
    · by_cases h1 : i % 2 = 1
      · simp only [Tm.set, beqF hi, cond_false, beqT h1, cond_true, Tm.get]
        exact Tm.get_set_eq l (i / 2) d
      · simp only [Tm.set, beqF hi, cond_false, beqF h1, Tm.get]
        exact Tm.get_set_eq r (i / 2 - 1) d

theorem Tm.get_set_ne : (t : Tm) → (i j : Nat) → (d : D) → i ≠ j → (t.set i d).get j = t.get j
  | .nil, i, j, d, _ => rfl
  | .node v l r, i, j, d, h => by
    by_cases hi : i = 0
    · have hj : j ≠ 0 := by omega
      simp only [Tm.set, beqT hi, cond_true, Tm.get, beqF hj, cond_false]
    · by_cases hj : j = 0
      · by_cases h1 : i % 2 = 1
        · simp only [Tm.set, beqF hi, cond_false, beqT h1, cond_true, Tm.get, beqT hj]
        · simp only [Tm.set, beqF hi, cond_false, beqF h1, Tm.get, beqT hj, cond_true]
      · by_cases h1 : i % 2 = 1
        · by_cases h2 : j % 2 = 1
          · simp only [Tm.set, beqF hi, cond_false, beqT h1, cond_true, Tm.get, beqF hj, beqT h2]
            exact Tm.get_set_ne l (i / 2) (j / 2) d (by omega)
          · simp only [Tm.set, beqF hi, cond_false, beqT h1, cond_true, Tm.get, beqF hj, beqF h2]
        · by_cases h2 : j % 2 = 1
          · simp only [Tm.set, beqF hi, cond_false, beqF h1, Tm.get, beqF hj, beqT h2, cond_true]
          · simp only [Tm.set, beqF hi, cond_false, beqF h1, Tm.get, beqF hj, beqF h2]
            exact Tm.get_set_ne r (i / 2 - 1) (j / 2 - 1) d (by omega)

theorem Ts.get_set_ne {T T' : Ts} {i j : Nat} {d : D} (hs : T.set i d = some T') (h : i ≠ j) : T'.get j = T.get j := by
  unfold Ts.set at hs
  cases hb : Nat.blt i T.n with
  | false => simp [hb] at hs
  | true =>
    simp only [hb, cond_true, Option.some.injEq] at hs
    subst hs
    exact Tm.get_set_ne _ _ _ _ h
theorem Ts.get_set_eq {T T' : Ts} {i : Nat} {d : D} (hs : T.set i d = some T') : T'.get i = d ∨ T'.get i = .top := by
  unfold Ts.set at hs
  cases hb : Nat.blt i T.n with
  | false => simp [hb] at hs
  | true =>
    simp only [hb, cond_true, Option.some.injEq] at hs
    subst hs
    exact Tm.get_set_eq _ _ _
theorem Ts.set_n {T T' : Ts} {i : Nat} {d : D} (hs : T.set i d = some T') : T'.n = T.n ∧ i < T.n := by
  unfold Ts.set at hs
  cases hb : Nat.blt i T.n with
  | false => simp [hb] at hs
  | true =>
    simp only [hb, cond_true, Option.some.injEq] at hs
    subst hs
    exact ⟨rfl, by simpa [Nat.blt_eq] using hb⟩

theorem TRep.set {c : Ctx} {T T' : Ts} {tmps : Array Value} (h : TRep c T tmps) {i : Nat} {d : D} {v : Value} (hs : T.set i d = some T') (hr : Rep c d v) : TRep c T' (tmps.setIfInBounds i v) := by
  obtain ⟨hn, hi⟩ := Ts.set_n hs
  refine ⟨by simpa [hn] using h.1, fun j hj => ?_, fun j hj => ?_⟩
  rotate_left
  · rw [Ts.get_set_ne hs (by omega)]; exact h.2.2 j (by omega)
  rw [hn] at hj
  by_cases e : i = j
  · subst e
    have : (tmps.setIfInBounds i v).getD i undef = v := by simp [Array.getD, h.1, hi]
    rw [this]
    rcases Ts.get_set_eq hs with k | k
    · rw [k]; exact hr
    · rw [k]; simp only [Rep]
  · have h1 : (tmps.setIfInBounds i v).getD j undef = tmps.getD j undef := by
      simp [Array.getD, h.1, hj, e]
    rw [h1, Ts.get_set_ne hs e]
    exact h.2.1 j hj

theorem TRep.mono {c c' : Ctx} {T : Ts} {tmps : Array Value} (hl : Le c c') (h : TRep c T tmps) : TRep c' T tmps := ⟨h.1, fun i hi => (h.2.1 i hi).mono hl, h.2.2⟩

theorem TRep.put {c : Ctx} {T T' : Ts} {a : Act} (h : TRep c T a.tmps) {dst : Option Tmp} {d : D} {v : Value} (hs : put T dst d = some T') (hr : Rep c d v) : TRep c T' (a.put dst v).tmps := by
  cases dst with
  | none => simp only [Cv.put, Option.some.injEq] at hs; subst hs; exact h
  | some t => exact h.set hs hr

theorem rep_opd {E : Env} {c : Ctx} (hi : Inv E c) {T : Ts} {a : Act} (h : TRep c T a.tmps) (x : Operand) : Rep c (opd E T x) (a.eval x) := by
  cases x with
  | tmp t =>
    by_cases ht : t < T.n
    · exact h.2.1 t ht
    · simp only [opd]; rw [h.2.2 t (Nat.le_of_not_lt ht)]; simp only [Rep]
  | const v => exact rep_ofVal c v
  | global g =>
    simp only [opd]
    cases hg : E.glob g with
    | none => simp only [Rep]
    | some cells => simp only [Rep]; exact ⟨g, 0, rfl, hi.glob g cells hg⟩
  | func f => simp only [opd, Rep]; exact ⟨#[], #[], rfl, by simp [RepL], by simp [RepL]⟩

end Go.Cv
