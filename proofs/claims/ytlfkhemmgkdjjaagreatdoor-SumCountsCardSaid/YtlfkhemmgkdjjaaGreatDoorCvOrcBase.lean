/- Functions told by a rule of their own: what each rule owes; those without a body. -/
import Derived.Test.YtlfkhemmgkdjjaaGreatDoorCvDrawn5
import Derived.Lib.Bytealg
import Derived.Laws.Externs
set_option linter.unusedSimpArgs false
set_option linter.unusedVariables false
namespace Go.Cv
open Go.RowKit

section
variable {P : Program} {E : Env} {c : Ctx}

/-- A world that has grown. -/
theorem below_step (hi : Inv E c) {w' : World} (hb : Below c.w.heap.size c.w w') : Step c (c.at_ w') ∧ Inv E (c.at_ w') := by
  have hcell : Cells c (c.at_ w') := fun b off u h k => by
    have hlt := World.block_lt_of_cell? c.w _ h
    refine ⟨?_, k⟩
    show w'.cell? _ = _
    rw [hb.cell hlt]
    exact h
  have hle : Le c (c.at_ w') := ⟨hcell, fun id ob h => ⟨ob, h, Nat.le_refl _, fun _ => ⟨rfl, rfl, rfl⟩⟩⟩
  refine ⟨⟨hle, hb.os, hb.tape, hb.output, hb.size, fun b hlt _ => ⟨hb.block b hlt, fun _ => Iff.rfl⟩, fun id ob h => .inl ⟨ob, h, rfl⟩⟩, ?_⟩
  refine ⟨hi.inj, fun b off hbb => hi.new b off (by have hb' : w'.heap.size ≤ b := hbb; have := hb.size; omega), fun id ob h => ?_, glob_mono hle hi.glob⟩
  have hO := hi.ob id ob h
  obtain ⟨cur, T, fz, h1, _⟩ := hO.blk
  have hlt : c.η id < c.w.heap.size := (Array.getElem?_eq_some_iff.1 h1).1
  exact hO.move rfl rfl rfl (hb.block _ hlt) (fun _ => Iff.rfl) hle

/-- What a rule owes. -/
def OrcFor (P : Program) (E : Env) (f : FuncId) (o : List D → Heap → Option (Out × Heap)) : Prop :=
  ∀ (c : Ctx) (H : Heap) (args : List D) (vs : Array Value) (out : Out) (H' : Heap), Inv E c → c.H = (fun i => H[i]?) → RepL c args vs.toList → o args H = some (out, H') →
    CallX P f vs c.w fun e w' => ∃ c', c'.w = w' ∧ Step c c' ∧ Inv E c' ∧ c'.H = (fun i => H'[i]?) ∧ OutRep c' out e

theorem ext_gives (hi : Inv E c) {H : Heap} (hH : c.H = (fun i => H[i]?)) {f : FuncId} {fn : Func} (hf : P.funcs[f]? = some fn) (hb : fn.body = none) {vs : Array Value} {v : Value} (hr : (callFunc f vs).run P c.w = .ok (.value v) c.w) {d : D} (hd : Rep c d v) :
    CallX P f vs c.w fun e w' => ∃ c', c'.w = w' ∧ Step c c' ∧ Inv E c' ∧ c'.H = (fun i => H[i]?) ∧ OutRep c' (.ret d) e :=
  .inr ⟨⟨fn, hf, hb⟩, v, hr, c, rfl, Step.refl c, hi, hH, v, rfl, hd⟩

theorem calls_gives (hi : Inv E c) {H : Heap} (hH : c.H = (fun i => H[i]?)) {f : FuncId} (hc : Callable P f) {vs : Array Value} {d : D}
    (h : Calls P f vs c.w fun e w' => ∃ v, e = .returned v ∧ Below c.w.heap.size c.w w' ∧ Rep (c.at_ w') d v) :
    CallX P f vs c.w fun e w' => ∃ c', c'.w = w' ∧ Step c c' ∧ Inv E c' ∧ c'.H = (fun i => H[i]?) ∧ OutRep c' (.ret d) e :=
  .inl ⟨hc, h.mono fun e w' hh => by
    obtain ⟨v, rfl, hb, hr⟩ := hh
    obtain ⟨h1, h2⟩ := below_step hi hb
    exact ⟨c.at_ w', rfl, h1, h2, hH, v, rfl, hr⟩⟩

/-! ### bytealg -/
def idxB (ch : UInt8) : List UInt8 → Nat → Int
  | [], _ => -1
  | b :: l, i => if b == ch then (i : Int) else idxB ch l (i + 1)

theorem idxB_eq (ch : UInt8) : (l : List UInt8) → (i : Nat) → idxB ch l i = if Lib.indexByte l ch = -1 then -1 else Lib.indexByte l ch + i
  | [], i => by simp [idxB, Lib.indexByte]
  | b :: l, i => by
    have h := idxB_eq ch l (i + 1)
    have hg := Lib.indexByte_ge l ch
    simp only [idxB, Lib.indexByte]
    split
    · simp
    · rw [h]
      by_cases e : Lib.indexByte l ch = -1
      · simp [e]
      · simp only [e, if_false, beq_iff_eq]
        rw [if_neg (by omega)]
        omega

def cntB (ch : UInt8) : List UInt8 → Nat
  | [] => 0
  | b :: l => if b == ch then cntB ch l + 1 else cntB ch l

theorem cntB_eq (ch : UInt8) : (l : List UInt8) → cntB ch l = Lib.countByte l ch
  | [] => rfl
  | b :: l => by
    have h := cntB_eq ch l
    unfold Lib.countByte at h ⊢
    simp only [cntB, List.count_cons, h]
    split <;> simp_all

def orcIdx (args : List D) (H : Heap) : Option (Out × Heap) := match args with
  | [.str s, .int .u8 ch] => some (.ret (.int .i64 (idxB (UInt8.ofNat ch.toNat) s 0)), H)
  | _ => none
def orcCnt (args : List D) (H : Heap) : Option (Out × Heap) := match args with
  | [.str s, .int .u8 ch] => some (.ret (.int .i64 (cntB (UInt8.ofNat ch.toNat) s)), H)
  | _ => none

theorem rep_two {d1 d2 : D} {vs : Array Value} (h : RepL c [d1, d2] vs.toList) : ∃ v1 v2, vs = #[v1, v2] ∧ Rep c d1 v1 ∧ Rep c d2 v2 := by
  simp only [RepL] at h
  obtain ⟨u, us, h1, h2, v, vs', h3, h4, h5⟩ := h
  subst h5; subst h3
  exact ⟨u, v, by rw [← Array.toList_inj]; simpa using h1, h2, h4⟩
theorem rep_one {d1 : D} {vs : Array Value} (h : RepL c [d1] vs.toList) : ∃ v1, vs = #[v1] ∧ Rep c d1 v1 := by
  simp only [RepL] at h
  obtain ⟨u, us, h1, h2, h3⟩ := h
  subst h3
  exact ⟨u, by rw [← Array.toList_inj]; simpa using h1, h2⟩
theorem rep_three {d1 d2 d3 : D} {vs : Array Value} (h : RepL c [d1, d2, d3] vs.toList) : ∃ v1 v2 v3, vs = #[v1, v2, v3] ∧ Rep c d1 v1 ∧ Rep c d2 v2 ∧ Rep c d3 v3 := by
  simp only [RepL] at h
  obtain ⟨u, us, h1, h2, v, vs', h3, h4, x, xs, h5, h6, h7⟩ := h
  subst h7; subst h5; subst h3
  exact ⟨u, v, x, by rw [← Array.toList_inj]; simpa using h1, h2, h4, h6⟩

theorem idx_ok {f : FuncId} {fn : Func} (hf : P.funcs[f]? = some fn) (hn : (fn.name == "runtime.NumGoroutine") = false) (hb : fn.body = none) (hx : Extern.findNext fn = none) (he : Extern.find fn = some Extern.BytealgIndexByte.indexByte) : OrcFor P E f orcIdx := by
  intro c H args vs out H' hi hH hv h
  unfold orcIdx at h
  split at h
  case h_2 => cases h
  rename_i s ch
  injection h with h
  simp only [Prod.mk.injEq] at h
  obtain ⟨rfl, rfl⟩ := h
  obtain ⟨v1, v2, rfl, h1, h2⟩ := rep_two hv
  simp only [Rep] at h1 h2
  subst h1; subst h2
  refine ext_gives hi hH hf hb (v := .int .i64 (Lib.indexByte s (UInt8.ofNat ch.toNat))) ?_ ?_
  · rw [run_callFunc_extern hf hn (by rw [hb]; rfl) hx he, Lib.run_indexByteString]
    rfl
  · simp only [Rep, idxB_eq]
    by_cases e : Lib.indexByte s (UInt8.ofNat ch.toNat) = -1
    · simp [e]
    · simp [e]

theorem cnt_ok {f : FuncId} {fn : Func} (hf : P.funcs[f]? = some fn) (hn : (fn.name == "runtime.NumGoroutine") = false) (hb : fn.body = none) (hx : Extern.findNext fn = none) (he : Extern.find fn = some Extern.BytealgCount.count) : OrcFor P E f orcCnt := by
  intro c H args vs out H' hi hH hv h
  unfold orcCnt at h
  split at h
  case h_2 => cases h
  rename_i s ch
  injection h with h
  simp only [Prod.mk.injEq] at h
  obtain ⟨rfl, rfl⟩ := h
  obtain ⟨v1, v2, rfl, h1, h2⟩ := rep_two hv
  simp only [Rep] at h1 h2
  subst h1; subst h2
  refine ext_gives hi hH hf hb (v := .int .i64 (Lib.countByte s (UInt8.ofNat ch.toNat) : Nat)) ?_ ?_
  · rw [run_callFunc_extern hf hn (by rw [hb]; rfl) hx he, Lib.run_countString]
    rfl
  · simp only [Rep, cntB_eq]

/-! ### strings.Join -/
def joinB (sep : List UInt8) : List (List UInt8) → List UInt8
  | [] => []
  | [x] => x
  | x :: y :: xs => x ++ sep ++ joinB sep (y :: xs)
def strsOf : List (List D) → Option (List (List UInt8))
  | [] => some []
  | [.str s] :: l => (strsOf l).map (s :: ·)
  | _ => none
def orcJoin (args : List D) (H : Heap) : Option (Out × Heap) := match args with
  | [.slc xs, .str sep] => match strsOf xs with
    | some l => if l.length ≤ 140737488355328 ∧ (joinB sep l).length ≤ 140737488355328 then some (.ret (.str (joinB sep l)), H) else none
    | none => none
  | _ => none

theorem strsOf_spec : {xs : List (List D)} → {l : List (List UInt8)} → strsOf xs = some l → xs = l.map fun s => [D.str s]
  | [], l, h => by simp only [strsOf, Option.some.injEq] at h; subst h; rfl
  | x :: xs, l, h => by
    unfold strsOf at h
    split at h
    · cases ‹x :: xs = []›
    · rename_i s t e
      simp only [List.cons.injEq] at e
      obtain ⟨rfl, rfl⟩ := e
      simp only [Option.map_eq_some_iff] at h
      obtain ⟨m, hm, rfl⟩ := h
      rw [strsOf_spec hm]; rfl
    · cases h

end
end Go.Cv
