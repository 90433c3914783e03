/- Operations that leave the world alone: what they hand back is what the evaluator tells. -/
import Derived.Test.YtlfkhemmgkdjjaaGreatDoorCvInv
import Derived.Laws.Cells
import Derived.Laws.Slices
import Derived.Laws.Entries
import Derived.Laws.Strings
import Derived.ChangeKeysEq
set_option linter.unusedSimpArgs false
set_option linter.unusedVariables false
namespace Go.Cv
open Go.RowKit

theorem wr_eq (k : IntKind) (n : Int) : wr k n = k.wrap n := by
  cases k <;> simp only [wr] <;> split <;> simp_all [IntKind.wrap, IntKind.bits, IntKind.signed] <;> omega

/-- A value out of the machine that a pure value tells, the world as it was. -/
def Gives (P : Program) (c : Ctx) (s : Sem Value) (d : D) : Prop := ∃ v, s.run P c.w = .ok v c.w ∧ Rep c d v

section
variable {P : Program} {E : Env} {c : Ctx}

theorem Gives.of {s : Sem Value} {d : D} {v : Value} (h : s.run P c.w = .ok v c.w) (hr : Rep c d v) : Gives P c s d := ⟨v, h, hr⟩

theorem intD_gives {op : BinOp} {k : IntKind} {a b : Int} {d : D} {k' : IntKind} (h : intD op k a b = some d) (t : TypeId) (hk : (op = .shl ∨ op = .shr) ∨ k = k') :
    Gives P c (binOp op t (.int k a) (.int k' b)) d := by
  unfold Gives
  cases op <;> simp only [intD] at h <;> (try (split at h)) <;> (try cases h) <;>
    (rcases hk with hk | hk <;> (try (rcases hk with hk | hk <;> cases hk)) <;> (try subst hk)) <;>
    simp_all [binOp, Op.intArith, Op.intCmp, Op.intBits, Op.intDiv, Op.shift, Rep, wr_eq] <;> (try (intro hb; omega))

theorem strD_gives {op : BinOp} {x y : List UInt8} {d : D} (h : strD op x y = some d) (t : TypeId) :
    Gives P c (binOp op t (.string ⟨x.toArray⟩) (.string ⟨y.toArray⟩)) d := by
  unfold Gives
  cases op <;> simp only [strD] at h <;> (try (split at h)) <;> (try cases h) <;>
    simp_all [binOp, Op.stringOp, Rep, ByteArray.toList_mk, ByteArray.size]
  rename_i hlt
  rw [if_neg (by omega)]
  congr 2

theorem equalIn_bool (n : Nat) {t : TypeId} {a b : Bool} (h : P.underlying t = some .bool) : (Op.equalIn (n + 1) t (.bool a) (.bool b)).run P c.w = .ok (a == b) c.w := by
  simp only [Op.equalIn]
  simp [run_underlying h]
theorem equal_bool {t : TypeId} {a b : Bool} (h : P.underlying t = some .bool) : (Op.equal t (.bool a) (.bool b)).run P c.w = .ok (a == b) c.w := equalIn_bool 9999 h

theorem eqGuard_quiet {op : BinOp} {t : TypeId} {x y : Operand} {a b : Value} (h1 : a ≠ .nilIface) (h2 : ∀ cs, a ≠ .agg cs) : (eqGuard op t x y a b).run P c.w = .ok () c.w := by
  unfold eqGuard
  cases op <;> cases a <;> first
    | rfl
    | exact absurd rfl h1
    | exact absurd rfl (h2 _)

theorem binD_gives {op : BinOp} {x y : D} {d : D} {bt : Bool} (h : binD bt op x y = some d) {t : TypeId} {vx vy : Value} (hx : Rep c x vx) (hy : Rep c y vy)
    (hb : bt = true → P.underlying t = some .bool) (px py : Operand) :
    Gives P c (do eqGuard op t px py vx vy; binOp op t vx vy) d := by
  unfold binD at h
  split at h
  · rename_i k a k' b
    simp only [Rep] at hx hy
    subst hx hy
    have hg := eqGuard_quiet (P := P) (c := c) (op := op) (t := t) (x := px) (y := py) (a := .int k a) (b := .int k' b) (by simp) (by simp)
    have : Gives P c (binOp op t (.int k a) (.int k' b)) d := by
      split at h
      · exact intD_gives h t (.inl (.inl rfl))
      · exact intD_gives h t (.inl (.inr rfl))
      · split at h
        · rename_i e; exact intD_gives h t (.inr e)
        · cases h
    obtain ⟨v, h1, h2⟩ := this
    exact ⟨v, by simp [hg, h1], h2⟩
  · rename_i a b
    simp only [Rep] at hx hy
    subst hx hy
    have hg := eqGuard_quiet (P := P) (c := c) (op := op) (t := t) (x := px) (y := py) (a := .string ⟨a.toArray⟩) (b := .string ⟨b.toArray⟩) (by simp) (by simp)
    obtain ⟨v, h1, h2⟩ := strD_gives (P := P) (c := c) h t
    exact ⟨v, by simp [hg, h1], h2⟩
  · rename_i a b
    simp only [Rep] at hx hy
    subst hx hy
    cases hbt : bt with
    | false => simp [hbt] at h
    | true =>
    have hu := hb hbt
    simp only [hbt, if_true] at h
    have hg := eqGuard_quiet (P := P) (c := c) (op := op) (t := t) (x := px) (y := py) (a := .bool a) (b := .bool b) (by simp) (by simp)
    have he := equal_bool (P := P) (c := c) (a := a) (b := b) hu
    split at h
    · cases h; exact ⟨.bool (a == b), by simp [hg, binOp, he], by simp [Rep]⟩
    · cases h; exact ⟨.bool (!(a == b)), by simp [hg, binOp, he], by simp [Rep]⟩
    · cases h
  · cases h

theorem equalIn_slice_nil (n : Nat) {t e : TypeId} {a : Option Addr} {l cp : Nat} (h : P.underlying t = some (.slice e)) : (Op.equalIn (n + 1) t (.slice a l cp) (.slice none 0 0)).run P c.w = .ok a.isNone c.w := by
  cases a <;> simp [Op.equalIn, run_underlying h]
theorem equal_slice_nil {t e : TypeId} {a : Option Addr} {l cp : Nat} (h : P.underlying t = some (.slice e)) : (Op.equal t (.slice a l cp) (.slice none 0 0)).run P c.w = .ok a.isNone c.w := equalIn_slice_nil 9999 h
theorem equalIn_ptr_nil (n : Nat) {t e : TypeId} {a b : Option Addr} (h : P.underlying t = some (.pointer e)) (hn : a = none ∨ b = none) : (Op.equalIn (n + 1) t (.pointer a) (.pointer b)).run P c.w = .ok (a.isNone && b.isNone) c.w := by
  cases a <;> cases b <;> simp [Op.equalIn, run_underlying h]
  simp at hn
theorem equal_ptr_nil {t e : TypeId} {a b : Option Addr} (h : P.underlying t = some (.pointer e)) (hn : a = none ∨ b = none) : (Op.equal t (.pointer a) (.pointer b)).run P c.w = .ok (a.isNone && b.isNone) c.w := equalIn_ptr_nil 9999 h hn

theorem eqvD_spec {op : BinOp} {b : Bool} {d : D} (h : eqvD op b = some d) : (op = .eql ∧ d = .bool b) ∨ (op = .neq ∧ d = .bool (!b)) := by
  unfold eqvD at h
  split at h
  · injection h with h; exact .inl ⟨rfl, h.symm⟩
  · injection h with h; exact .inr ⟨rfl, h.symm⟩
  · cases h
theorem eqvD_ptr {op : BinOp} {b : Bool} {d : D} (h : eqvD op b = some d) {t : TypeId} {x y : Option Addr} (he : (Op.equal t (.pointer x) (.pointer y)).run P c.w = .ok b c.w) : Gives P c (binOp op t (.pointer x) (.pointer y)) d := by
  rcases eqvD_spec h with ⟨rfl, rfl⟩ | ⟨rfl, rfl⟩
  · exact ⟨.bool b, by simp [binOp, he], by simp [Rep]⟩
  · exact ⟨.bool (!b), by simp [binOp, he], by simp [Rep]⟩
theorem eqvD_slc {op : BinOp} {b : Bool} {d : D} (h : eqvD op b = some d) {t : TypeId} {x y : Option Addr} {l cp l' cp' : Nat} (he : (Op.equal t (.slice x l cp) (.slice y l' cp')).run P c.w = .ok b c.w) : Gives P c (binOp op t (.slice x l cp) (.slice y l' cp')) d := by
  rcases eqvD_spec h with ⟨rfl, rfl⟩ | ⟨rfl, rfl⟩
  · exact ⟨.bool b, by simp [binOp, he], by simp [Rep]⟩
  · exact ⟨.bool (!b), by simp [binOp, he], by simp [Rep]⟩

theorem nilD_gives {op : BinOp} {x y : D} {d : D} {i : TI} {t : TypeId} (hi : mkTI P t = some i) {px py : Operand} (h : nilD i.desc op py x y = some d) {vx vy : Value} (hx : Rep c x vx) (hy : Rep c y vy)
    (hc : ∀ v, py = .const v → vy = v) :
    Gives P c (do eqGuard op t px py vx vy; binOp op t vx vy) d := by
  have key : (∃ a, vx = .pointer a) ∨ (∃ a l cp, vx = .slice a l cp) → Gives P c (binOp op t vx vy) d → Gives P c (do eqGuard op t px py vx vy; binOp op t vx vy) d := fun hv hg => by
    obtain ⟨v, h1, h2⟩ := hg
    have hq := eqGuard_quiet (P := P) (c := c) (op := op) (t := t) (x := px) (y := py) (a := vx) (b := vy) (by rcases hv with ⟨a, rfl⟩ | ⟨a, l, cp, rfl⟩ <;> simp) (by rcases hv with ⟨a, rfl⟩ | ⟨a, l, cp, rfl⟩ <;> simp)
    exact ⟨v, by simp [hq, h1], h2⟩
  unfold nilD at h
  split at h
  · rename_i e xs hd
    split at h
    case h_2 => cases h
    have hu := under_slice hi (by assumption)
    simp only [Rep] at hx
    obtain ⟨a, len, cap, rfl, h1, h2, h3, h4⟩ := hx
    have hvy := hc _ rfl
    subst hvy
    refine key (.inr ⟨_, _, _, rfl⟩) (eqvD_slc h ?_)
    rcases h4 with h4 | ⟨b, o, sz, ha, _⟩
    · cases h4
    · rw [equal_slice_nil hu, ha]; rfl
  · have hu := under_ptr hi (by assumption)
    simp only [Rep] at hx
    subst hx
    split at h
    · simp only [Rep] at hy; subst hy
      exact key (.inl ⟨_, rfl⟩) (eqvD_ptr h (equal_ptr_nil hu (.inl rfl)))
    · simp only [Rep] at hy; obtain ⟨b, o, rfl, _⟩ := hy
      exact key (.inl ⟨_, rfl⟩) (eqvD_ptr h (equal_ptr_nil hu (.inl rfl)))
    · cases h
  · have hu := under_ptr hi (by assumption)
    simp only [Rep] at hx
    obtain ⟨b, o, rfl, _⟩ := hx
    split at h
    · simp only [Rep] at hy; subst hy
      exact key (.inl ⟨_, rfl⟩) (eqvD_ptr h (equal_ptr_nil hu (.inr rfl)))
    · cases h
  · have hu := under_ptr hi (by assumption)
    simp only [Rep, IsPtr] at hx
    obtain ⟨⟨a, rfl⟩, _⟩ := hx
    split at h
    · simp only [Rep] at hy; subst hy
      exact key (.inl ⟨_, rfl⟩) (eqvD_ptr h (equal_ptr_nil hu (.inr rfl)))
    · cases h
  · cases h

theorem unD_gives {op : UnOp} {x d : D} (h : unD op x = some d) {vx : Value} (hx : Rep c x vx) : Gives P c (Op.unary op vx) d := by
  unfold unD at h
  split at h
  · rename_i k n; simp only [intD, Option.some.injEq] at h; subst h
    simp only [Rep] at hx; subst hx
    exact ⟨_, by simp [Op.unary, Op.intArith]; rfl, by simp [Rep, wr_eq]⟩
  · rename_i k n; simp only [intD, Option.some.injEq] at h; subst h
    simp only [Rep] at hx; subst hx
    exact ⟨_, by simp [Op.unary, Op.intBits]; rfl, by simp [Rep, wr_eq]⟩
  · cases h; simp only [Rep] at hx; subst hx
    exact ⟨_, by simp [Op.unary]; rfl, by simp [Rep]⟩
  · cases h

/-! ### Memory that is read -/
theorem cell?_heap {w : World} {b o : Nat} {cur : Array Value} {T : TypeId} {fz : Nat × Nat} (h : w.heap[b]? = some (.cells cur T fz)) : w.cell? ⟨b, o, none⟩ = cur[o]? := by
  simp [World.cell?, h]

theorem add_none (b o n : Nat) : (⟨b, o, none⟩ : Addr).add n = ⟨b, o + n, none⟩ := by
  unfold Addr.add
  split
  · rename_i h; subst h; simp
  · rfl

theorem isAgg_run {t : TypeId} {i : TI} (h : mkTI P t = some i) (w : World) : (isAgg t).run P w = .ok i.agg w := by
  obtain ⟨info, u, h1, h2, _, _, h5, _, _⟩ := mkTI_spec h
  unfold isAgg
  simp only [Sem.run_bind, run_underlying h2, Result.andThen_ok]
  rw [h5]
  cases u <;> simp

theorem sizeOf_run {t : TypeId} {i : TI} (h : mkTI P t = some i) (w : World) : (sizeOf t).run P w = .ok i.size w := by
  obtain ⟨info, u, h1, h2, h3, _, _, _, _⟩ := mkTI_spec h
  unfold sizeOf
  simp [run_typeInfo w h1, h3]

theorem cellsOf_size {t : TypeId} {i : TI} (h : mkTI P t = some i) : P.cellsOf t = i.size := by
  obtain ⟨info, u, h1, h2, h3, _, _, _, _⟩ := mkTI_spec h
  simp [Program.cellsOf, h1, h3]

/-- A row of cells, told by values. -/
def Row (c : Ctx) (b o : Nat) (row : List D) : Prop := ∀ (j : Nat) (d : D), row[j]? = some d → ∃ u, c.w.cell? ⟨b, o + j, none⟩ = some u ∧ Rep c d u

theorem Row.values {b o : Nat} {row : List D} (h : Row c b o row) : ∃ vs : List Value, RepL c row vs ∧ ∀ (j : Nat) (v : Value), vs[j]? = some v → c.w.cell? ⟨b, o + j, none⟩ = some v := by
  induction row generalizing o with
  | nil => exact ⟨[], by simp [RepL], by simp⟩
  | cons d row ih =>
    obtain ⟨u, hu, hr⟩ := h 0 d rfl
    obtain ⟨vs, h1, h2⟩ := ih (o := o + 1) (fun j x hx => by
      have := h (j + 1) x (by simpa using hx)
      rwa [show o + (j + 1) = o + 1 + j by omega] at this)
    refine ⟨u :: vs, by simp only [RepL]; exact ⟨u, vs, rfl, hr, h1⟩, fun j v hv => ?_⟩
    cases j with
    | zero => simp at hv; subst hv; exact hu
    | succ j =>
      have := h2 j v (by simpa using hv)
      rwa [show o + 1 + j = o + (j + 1) by omega] at this

theorem Row.drop {b o : Nat} {row : List D} (h : Row c b o row) (k : Nat) : Row c b (o + k) (row.drop k) := fun j d hd => by
  have := h (k + j) d (by simpa using hd)
  rwa [show o + (k + j) = o + k + j by omega] at this
theorem Row.take {b o : Nat} {row : List D} (h : Row c b o row) (k : Nat) : Row c b o (row.take k) := fun j d hd => by
  refine h j d ?_
  rw [List.getElem?_take] at hd
  split at hd
  · exact hd
  · cases hd

theorem load_row {t : TypeId} {i : TI} (hi : mkTI P t = some i) {b o : Nat} {row : List D} (h : Row c b o row) {off : Nat} {d : D} {a : Addr} (ha : a = ⟨b, o + off, none⟩)
    (hd : cellAt i row off = some d) :
    Gives P c (Instr.loadAt t (.pointer (some a))) d := by
  subst ha
  unfold cellAt at hd
  split at hd
  case isFalse => cases hd
  rename_i hle
  have hA := isAgg_run hi c.w
  have hS := sizeOf_run hi c.w
  split at hd
  · rename_i hag
    cases hd
    obtain ⟨vs, h1, h2⟩ := ((h.drop off).take i.size).values
    have hl : vs.length = i.size := by rw [RepL.length h1]; simp; omega
    have hrun := run_loadCells_list (P := P) c.w ⟨b, o + off, none⟩ vs (fun j v hv => by rw [add_none]; exact h2 j v hv)
    rw [hl] at hrun
    refine ⟨.agg vs.toArray, ?_, ?_⟩
    · simp [Instr.loadAt, Instr.sureAddr, loadVar, hA, hag, hS, hrun]
    · simp only [Rep]; exact ⟨vs.toArray, rfl, by simpa using h1⟩
  · rename_i hag
    split at hd
    · obtain ⟨u, hu, hr⟩ := h off d hd
      refine ⟨u, ?_, hr⟩
      simp only [Bool.not_eq_true] at hag
      simp [Instr.loadAt, Instr.sureAddr, loadVar, hA, hag, hu]
    · cases hd

theorem RepCells.row {cells : List D} {b o : Nat} (h : RepCells c cells b o) : Row c b o cells := fun j d hd => by
  obtain ⟨_, _, u, h1, _, h2⟩ := h.get j d hd
  exact ⟨u, h1, h2⟩

theorem ObInv.rowAt {id : Nat} {ob : Ob} (h : ObInv c id ob) {k : Nat} {row : List D} (hr : ob.xs[k]? = some row) : Row c (c.η id) (k * c.σ id) row := fun j d hd => ((h.row k row hr).2 j d hd).2

theorem load_gives (hinv : Inv E c) (hE : EnvOK P E) {H : Heap} {t : TypeId} {a d : D} {va : Value} (hH : ∀ id ∈ ids a, ∀ ob, H[id]? = some ob → c.H id = some ob)
    (h : loadD E H t a = some d) (ha : Rep c a va) : Gives P c (Instr.loadAt t va) d := by
  unfold loadD at h
  split at h
  · cases h
  · rename_i i hi
    have hi' := hE.ti t i hi
    split at h
    · rename_i id n k off
      split at h
      · rename_i ob hob
        split at h
        · rename_i hn
          split at h
          · rename_i row hrow
            have hc := hH id (by simp [ids]) ob hob
            simp only [Rep] at ha
            obtain ⟨_, ob', h1, h2, h3⟩ := ha
            rw [hc] at h1
            injection h1 with h1
            subst h1
            have hn' : ob.xs.length = n := by simpa using hn
            rw [h3 hn'.symm]
            exact load_row hi' ((hinv.ob id ob hc).rowAt hrow) rfl h
          · cases h
        · cases h
      · cases h
    · rename_i cells off
      simp only [Rep] at ha
      obtain ⟨b, o, rfl, hr⟩ := ha
      exact load_row hi' hr.row rfl h
    · cases h

end
end Go.Cv
