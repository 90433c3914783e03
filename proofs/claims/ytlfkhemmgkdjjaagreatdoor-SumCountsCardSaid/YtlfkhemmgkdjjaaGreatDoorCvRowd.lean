/- Rows, attributes, values as the evaluator sees them. -/
import Derived.Test.YtlfkhemmgkdjjaaGreatDoorCvWs
import Derived.Test.YtlfkhemmgkdjjaaGreatDoorCvBridge
set_option linter.unusedSimpArgs false
set_option linter.unusedVariables false
namespace Go.Cv

structure GValue where
  kind : Int
  i : Int
  s : List UInt8
  l : List Int
structure GAttr where
  name : List UInt8
  v : GValue
structure GStamp where
  tick : Int
  inc : Int
  seq : Int
  origin : List UInt8
structure GRow where
  key : List UInt8
  st : GStamp
  attrs : List GAttr

def enc64 (n : Int) : List D := [.int .i64 n]
def encV (v : GValue) : List D := [.int .i64 v.kind, .int .i64 v.i, .str v.s, .slc (v.l.map enc64)]
def encA (a : GAttr) : List D := .str a.name :: encV a.v
def encSt (s : GStamp) : List D := [.int .i64 s.tick, .int .i64 s.inc, .int .i64 s.seq, .str s.origin]
def encR (r : GRow) : List D := [.str r.key, .int .i64 r.st.tick, .int .i64 r.st.inc, .int .i64 r.st.seq, .str r.st.origin, .slc (r.attrs.map encA)]

def in64 (n : Int) : Prop := -9223372036854775808 ≤ n ∧ n ≤ 9223372036854775807
def GValue.ok (v : GValue) : Prop := in64 v.kind ∧ in64 v.i ∧ v.s.length ≤ maxLen ∧ v.l.length ≤ maxLen ∧ ∀ n ∈ v.l, in64 n
def GAttr.ok (a : GAttr) : Prop := a.name.length ≤ maxLen ∧ a.v.ok
def GStamp.ok (s : GStamp) : Prop := in64 s.tick ∧ in64 s.inc ∧ in64 s.seq ∧ s.origin.length ≤ maxLen
def GRow.ok (r : GRow) : Prop := r.key.length ≤ maxLen ∧ r.st.ok ∧ r.attrs.length ≤ maxLen ∧ ∀ a ∈ r.attrs, a.ok

def shV : List Shape := [.int .i64, .int .i64, .str, .slc [.int .i64]]
def shA : List Shape := .str :: shV
def shR : List Shape := [.str, .int .i64, .int .i64, .int .i64, .str, .slc shA]

/-- Each element told: so the list. -/
theorem list_of {α : Type} {enc : α → List D} {ok : α → Prop} (xs : List (List D)) (h : ∀ x ∈ xs, ∃ a, x = enc a ∧ ok a) : ∃ l : List α, xs = l.map enc ∧ ∀ a ∈ l, ok a := by
  induction xs with
  | nil => exact ⟨[], rfl, by simp⟩
  | cons x xs ih =>
    obtain ⟨a, rfl, ha⟩ := h x (by simp)
    obtain ⟨l, rfl, hl⟩ := ih fun y hy => h y (by simp [hy])
    exact ⟨a :: l, rfl, by simpa using ⟨ha, hl⟩⟩

theorem has64 {x : List D} (h : HasL [.int .i64] x) : ∃ n, x = enc64 n ∧ in64 n := by
  simp only [HasL, Has] at h
  obtain ⟨d, ds, rfl, ⟨n, rfl, h1, h2⟩, rfl⟩ := h
  exact ⟨n, rfl, h1, h2⟩

theorem hasV {x : List D} (h : HasL shV x) : ∃ v : GValue, x = encV v ∧ v.ok := by
  simp only [shV, HasL, Has] at h
  obtain ⟨_, _, rfl, ⟨a, rfl, ha⟩, _, _, rfl, ⟨b, rfl, hb⟩, _, _, rfl, ⟨c, rfl, hc⟩, _, _, rfl, ⟨xs, rfl, hx, hxs⟩, rfl⟩ := h
  obtain ⟨l, rfl, hl⟩ := list_of (enc := enc64) (ok := in64) xs fun x hx => by
    obtain ⟨d, ds, rfl, ⟨n, rfl, h1, h2⟩, rfl⟩ := hxs x hx
    exact ⟨n, rfl, h1, h2⟩
  exact ⟨⟨a, b, c, l⟩, rfl, ha, hb, hc, by simpa using hx, hl⟩

theorem hasA {x : List D} (h : HasL shA x) : ∃ a : GAttr, x = encA a ∧ a.ok := by
  simp only [shA, HasL] at h
  obtain ⟨_, ds, rfl, hn, h⟩ := h
  simp only [Has] at hn
  obtain ⟨n, rfl, hn⟩ := hn
  obtain ⟨v, rfl, hv⟩ := hasV h
  exact ⟨⟨n, v⟩, rfl, hn, hv⟩

theorem hasR {x : List D} (h : HasL shR x) : ∃ r : GRow, x = encR r ∧ r.ok := by
  unfold shR at h
  rw [HasL] at h; obtain ⟨_, _, rfl, h1, h⟩ := h
  rw [HasL] at h; obtain ⟨_, _, rfl, h2, h⟩ := h
  rw [HasL] at h; obtain ⟨_, _, rfl, h3, h⟩ := h
  rw [HasL] at h; obtain ⟨_, _, rfl, h4, h⟩ := h
  rw [HasL] at h; obtain ⟨_, _, rfl, h5, h⟩ := h
  rw [HasL] at h; obtain ⟨_, _, rfl, h6, h⟩ := h
  rw [HasL] at h; subst h
  rw [Has.eq_def] at h1 h2 h3 h4 h5 h6
  simp only at h1 h2 h3 h4 h5 h6
  obtain ⟨key, rfl, hk⟩ := h1
  obtain ⟨t, rfl, ht⟩ := h2
  obtain ⟨ic, rfl, hi⟩ := h3
  obtain ⟨sq, rfl, hs⟩ := h4
  obtain ⟨og, rfl, ho⟩ := h5
  obtain ⟨xs, rfl, hx, hxs⟩ := h6
  obtain ⟨l, rfl, hl⟩ := list_of (enc := encA) (ok := GAttr.ok) xs fun x hx => hasA (hxs x hx)
  exact ⟨⟨key, ⟨t, ic, sq, og⟩, l⟩, rfl, hk, ⟨ht, hi, hs, ho⟩, by simpa using hx, hl⟩

theorem callPure_list {call : CallF} {g : FuncId} {args args' : List D} {H H0 : Heap} {d : D} {xs : List (List D)} (hv : viewL H args = some args') (hf : idFreeL args' = true) (hp : call g args' [] = some (.ret d, H0)) (hd : view H0 d = some (.slc xs))
    (hx : (args.flatMap arrs.arr1).isEmpty = true) {m : Nat} : callPure call true g args H m = some (.slc xs, []) := by
  have hpl : ∃ H1, plainOut true d H0 = some (.slc xs, H1) := ⟨_, by simp only [plainOut, if_true, hd]; rfl⟩
  obtain ⟨H1, hpl⟩ := hpl
  simp only [callPure, hv, hf, hp, hpl, hx, Bool.true_or, Bool.not_true, Bool.false_eq_true, if_false, idFree, if_true]
end Go.Cv
