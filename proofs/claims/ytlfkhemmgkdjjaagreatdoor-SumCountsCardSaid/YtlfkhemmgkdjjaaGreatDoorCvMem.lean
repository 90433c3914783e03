/- How the world turns: a new block, an order drawn, an object's cells written. -/
import Derived.Test.YtlfkhemmgkdjjaaGreatDoorCvOps5
import Derived.Laws.NewBlocks
import Derived.Laws.IdiomCopy
set_option linter.unusedSimpArgs false
set_option linter.unusedVariables false
namespace Go.Cv
open Go.RowKit

section
variable {P : Program} {E : Env} {c : Ctx}

def upd {α : Type} (f : Nat → α) (n : Nat) (x : α) : Nat → α := fun i => if i = n then x else f i
@[simp] theorem upd_same {α : Type} (f : Nat → α) (n : Nat) (x : α) : upd f n x n = x := by simp [upd]
theorem upd_ne {α : Type} (f : Nat → α) {n i : Nat} (x : α) (h : i ≠ n) : upd f n x i = f i := by simp [upd, h]

/-- The same but for the world. -/
def Ctx.at_ (c : Ctx) (w : World) : Ctx := { c with w := w }

theorem ObInv.move {c c' : Ctx} {id : Nat} {ob : Ob} (h : ObInv c id ob) (hη : c'.η id = c.η id) (hκ : c'.κ id = c.κ id) (hσ : c'.σ id = c.σ id) (hb : c'.w.heap[c.η id]? = c.w.heap[c.η id]?) (hR : ∀ o, c'.R (c.η id) o ↔ c.R (c.η id) o)
    (hle : Le c c') : ObInv c' id ob := by
  have hcell : ∀ o, c'.w.cell? ⟨c.η id, o, none⟩ = c.w.cell? ⟨c.η id, o, none⟩ := fun o => by simp [World.cell?, hb]
  have hfz : ∀ o, c'.w.frozen? ⟨c.η id, o, none⟩ = c.w.frozen? ⟨c.η id, o, none⟩ := fun o => by simp [World.frozen?, hb]
  refine ⟨?_, by rw [hκ]; exact h.len, by rw [hκ]; exact h.cap, fun i x hx => ?_, fun o ho => ?_, fun o ho => ?_, h.shd, h.sh, fun e => by rw [hκ]; exact h.emp e⟩
  · obtain ⟨cur, T, fz, h1, h2, h3, h0⟩ := h.blk
    exact ⟨cur, T, fz, by rw [hη, hb]; exact h1, by rw [hκ, hσ]; exact h2, fun o ho => by rw [hη, hfz]; exact h3 o ho, h0⟩
  · obtain ⟨h1, h2⟩ := h.row i x hx
    refine ⟨by rw [hσ]; exact h1, fun j d hd => ?_⟩
    obtain ⟨k1, u, k2, k3⟩ := h2 j d hd
    exact ⟨k1, u, by rw [hη, hσ, hcell]; exact k2, k3.mono hle⟩
  · rw [hη]; rw [hσ] at ho; exact (hR o).2 (h.res o ho)
  · rw [hη]; rw [hσ] at ho; exact fun k => h.unr o ho ((hR o).1 k)

theorem glob_mono {c c' : Ctx} (hle : Le c c') (h : ∀ g cells, E.glob g = some cells → RepCells c cells g 0) : ∀ g cells, E.glob g = some cells → RepCells c' cells g 0 := fun g cells hg => RepCells.free hle.cells _ _ _ (h g cells hg)

theorem heap_push_old (w : World) (o : Obj) {b : Nat} (h : b < w.heap.size) : (w.alloc o).heap[b]? = w.heap[b]? := by
  show (w.heap.push o)[b]? = _
  rw [Array.getElem?_push, if_neg (by omega)]
theorem heap_push_new (w : World) (o : Obj) : (w.alloc o).heap[w.heap.size]? = some o := by
  show (w.heap.push o)[w.heap.size]? = _
  rw [Array.getElem?_push, if_pos rfl]
theorem cell_alloc_old (w : World) (o : Obj) {b off : Nat} (h : b < w.heap.size) : (w.alloc o).cell? ⟨b, off, none⟩ = w.cell? ⟨b, off, none⟩ := by
  simp only [World.cell?, heap_push_old w o h]
theorem cell_alloc_new (w : World) (C : Array Value) (T : TypeId) (i : Nat) : (w.alloc (.cells C T)).cell? ⟨w.heap.size, i, none⟩ = C[i]? := by
  simp only [World.cell?, heap_push_new]; simp
theorem frozen_alloc_new (w : World) (C : Array Value) (T : TypeId) (i : Nat) : (w.alloc (.cells C T)).frozen? ⟨w.heap.size, i, none⟩ = false := by
  simp only [World.frozen?, heap_push_new]; simp

/-- A world with a new block that no object has: nothing else turns. -/
theorem step_alloc (hi : Inv E c) (o : Obj) : Step c (c.at_ (c.w.alloc o)) ∧ Inv E (c.at_ (c.w.alloc o)) := by
  have hcell : Cells c (c.at_ (c.w.alloc o)) := fun b off u h k => by
    have hb := World.block_lt_of_cell? c.w _ h
    refine ⟨?_, k⟩
    show (c.w.alloc o).cell? _ = _
    rw [cell_alloc_old _ _ hb]
    exact h
  have hle : Le c (c.at_ (c.w.alloc o)) := ⟨hcell, fun id ob h => ⟨ob, h, Nat.le_refl _, fun _ => ⟨rfl, rfl, rfl⟩⟩⟩
  refine ⟨⟨hle, rfl, rfl, rfl, by show _ ≤ (c.w.alloc o).heap.size; rw [World.size_alloc]; omega, fun b hb _ => ⟨heap_push_old _ _ hb, fun _ => Iff.rfl⟩, fun id ob h => .inl ⟨ob, h, rfl⟩⟩, ?_⟩
  refine ⟨hi.inj, fun b off hb => hi.new b off (by have hb' : (c.w.alloc o).heap.size ≤ b := hb; rw [World.size_alloc] at hb'; omega), fun id ob h => ?_, glob_mono hle hi.glob⟩
  have hO := hi.ob id ob h
  obtain ⟨cur, T, fz, h1, _⟩ := hO.blk
  have hlt : c.η id < c.w.heap.size := (Array.getElem?_eq_some_iff.1 h1).1
  exact hO.move rfl rfl rfl (heap_push_old _ _ hlt) (fun _ => Iff.rfl) hle

/-- A world in which orders have been drawn. -/
theorem step_drew (hi : Inv E c) : Step c (c.at_ c.w.drew) ∧ Inv E (c.at_ c.w.drew) := by
  have hle : Le c (c.at_ c.w.drew) := ⟨fun b off u h k => ⟨h, k⟩, fun id ob h => ⟨ob, h, Nat.le_refl _, fun _ => ⟨rfl, rfl, rfl⟩⟩⟩
  refine ⟨⟨hle, rfl, rfl, rfl, Nat.le_refl _, fun b hb _ => ⟨rfl, fun _ => Iff.rfl⟩, fun id ob h => .inl ⟨ob, h, rfl⟩⟩, hi.inj, hi.new, fun id ob h => ?_, glob_mono hle hi.glob⟩
  exact (hi.ob id ob h).move rfl rfl rfl rfl (fun _ => Iff.rfl) hle

/-- A new object. -/
def Ctx.newOb (c : Ctx) (n : Nat) (ob : Ob) (cur : Array Value) (T : TypeId) (cap sz : Nat) : Ctx :=
  { w := c.w.alloc (.cells cur T), R := fun b o => if b = c.w.heap.size then ob.sh * sz ≤ o else c.R b o
    η := upd c.η n c.w.heap.size, κ := upd c.κ n cap, σ := upd c.σ n sz, H := upd c.H n (some ob) }

theorem step_newOb (hi : Inv E c) {n : Nat} {ob : Ob} (hn : ∀ ob0, c.H n = some ob0 → ob0.xs.length < ob.xs.length) {cur : Array Value} {T : TypeId} {cap sz : Nat} (hsh : ob.sh ≤ ob.xs.length) (hshd : ∀ i x, ob.xs[i]? = some x → i < ob.sh → idFreeL x = true) (hemp : ob.xs = [] → cap = 0) (hlen : ob.xs.length ≤ cap) (hcap : cap ≤ maxLen) (hsz : cap * sz ≤ cur.size)
    (hrow : ∀ i x, ob.xs[i]? = some x → x.length = sz ∧ ∀ j d, x[j]? = some d → leaf d = true ∧ ∃ u, cur[i * sz + j]? = some u ∧ Rep c d u) :
    Step c (c.newOb n ob cur T cap sz) ∧ Inv E (c.newOb n ob cur T cap sz) := by
  have hcell : Cells c (c.newOb n ob cur T cap sz) := fun b off u h k => by
    have hb := World.block_lt_of_cell? c.w _ h
    simp only at hb
    refine ⟨?_, ?_⟩
    · show (c.w.alloc _).cell? _ = _
      rw [cell_alloc_old _ _ hb]
      exact h
    · show ¬ (if b = c.w.heap.size then ob.sh * sz ≤ off else c.R b off)
      rw [if_neg (by omega)]; exact k
  have hle : Le c (c.newOb n ob cur T cap sz) := ⟨hcell, fun id ob' h => by
    by_cases e : id = n
    · subst e
      exact ⟨ob, upd_same .., Nat.le_of_lt (hn ob' h), fun k => by have := hn ob' h; omega⟩
    · exact ⟨ob', by show upd c.H n _ id = _; rw [upd_ne _ _ e]; exact h, Nat.le_refl _, fun _ => ⟨upd_ne _ _ e, upd_ne _ _ e, upd_ne _ _ e⟩⟩⟩
  have hlt : ∀ id ob', c.H id = some ob' → c.η id < c.w.heap.size := fun id ob' h => by
    obtain ⟨cur, T, fz, h1, _⟩ := (hi.ob id ob' h).blk
    exact (Array.getElem?_eq_some_iff.1 h1).1
  refine ⟨⟨hle, rfl, rfl, rfl, by show _ ≤ (c.w.alloc (.cells cur T)).heap.size; rw [World.size_alloc]; omega, fun b hb _ => ⟨heap_push_old _ _ hb, fun o => ?_⟩, fun id ob' h => ?_⟩, ?_⟩
  · show (if b = c.w.heap.size then ob.sh * sz ≤ o else c.R b o) ↔ c.R b o
    rw [if_neg (by omega)]
  · by_cases e : id = n
    · subst e; exact .inr (by show c.w.heap.size ≤ upd c.η id _ id; simp)
    · have h' : c.H id = some ob' := by have : upd c.H n (some ob) id = some ob' := h; rwa [upd_ne _ _ e] at this
      exact .inl ⟨ob', h', upd_ne _ _ e⟩
  · refine ⟨fun i j oi oj h1 h2 e => ?_, fun b off hb => ?_, fun id ob' h => ?_, glob_mono hle hi.glob⟩
    · have h1' : upd c.H n (some ob) i = some oi := h1
      have h2' : upd c.H n (some ob) j = some oj := h2
      have e' : upd c.η n c.w.heap.size i = upd c.η n c.w.heap.size j := e
      by_cases e1 : i = n <;> by_cases e2 : j = n
      · omega
      · subst e1; rw [upd_ne _ _ e2] at h2' e'; simp at e'; have := hlt j oj h2'; omega
      · subst e2; rw [upd_ne _ _ e1] at h1' e'; simp at e'; have := hlt i oi h1'; omega
      · rw [upd_ne _ _ e1] at h1' e'; rw [upd_ne _ _ e2] at h2' e'; exact hi.inj i j oi oj h1' h2' e'
    · have hb' : (c.w.alloc (.cells cur T)).heap.size ≤ b := hb
      rw [World.size_alloc] at hb'
      show ¬ (if b = c.w.heap.size then ob.sh * sz ≤ off else c.R b off)
      rw [if_neg (by omega)]
      exact hi.new b off (by omega)
    · have h' : upd c.H n (some ob) id = some ob' := h
      by_cases e : id = n
      · subst e
        simp at h'
        subst h'
        have eη : (c.newOb id ob cur T cap sz).η id = c.w.heap.size := upd_same ..
        have eκ : (c.newOb id ob cur T cap sz).κ id = cap := upd_same ..
        have eσ : (c.newOb id ob cur T cap sz).σ id = sz := upd_same ..
        refine ⟨⟨cur, T, (0, 0), by rw [eη]; exact heap_push_new _ _, by rw [eκ, eσ]; exact hsz, fun o ho => by rw [eη]; exact frozen_alloc_new _ _ _ _, rfl⟩, by rw [eκ]; exact hlen, by rw [eκ]; exact hcap, fun i x hx => ?_, fun o ho => ?_, fun o ho => ?_, hshd, hsh, fun e => by rw [eκ]; exact hemp e⟩
        · obtain ⟨h1, h2⟩ := hrow i x hx
          refine ⟨by rw [eσ]; exact h1, fun j d hd => ?_⟩
          obtain ⟨k1, u, k2, k3⟩ := h2 j d hd
          refine ⟨k1, u, ?_, k3.mono hle⟩
          rw [eη, eσ]
          show (c.w.alloc _).cell? _ = _
          rw [cell_alloc_new]
          exact k2
        · rw [eη]; rw [eσ] at ho; show (if c.w.heap.size = c.w.heap.size then ob.sh * sz ≤ o else _); rw [if_pos rfl]; exact ho
        · rw [eη]; rw [eσ] at ho; show ¬ (if c.w.heap.size = c.w.heap.size then ob.sh * sz ≤ o else _); rw [if_pos rfl]; omega
      · rw [upd_ne _ _ e] at h'
        have hO := hi.ob id ob' h'
        exact hO.move (upd_ne _ _ e) (upd_ne _ _ e) (upd_ne _ _ e) (heap_push_old _ _ (hlt id ob' h')) (fun o => by
          show (if c.η id = c.w.heap.size then ob.sh * sz ≤ o else c.R (c.η id) o) ↔ c.R (c.η id) o
          rw [if_neg (by have := hlt id ob' h'; omega)]) hle

/-- An object's cells, some of them written. -/
def Ctx.setOb (c : Ctx) (id : Nat) (ob : Ob) (o : Nat) (vs : List Value) : Ctx :=
  { c with w := c.w.setCells (c.η id) o vs, H := upd c.H id (some ob) }

theorem setCells_heap_other (b k : Nat) (h : k ≠ b) : ∀ (vs : List Value) (o : Nat) (w : World), (w.setCells b o vs).heap[k]? = w.heap[k]?
  | [], _, _ => rfl
  | v :: vs, o, w => by rw [World.setCells, setCells_heap_other b k h vs]; exact Below.heap_setCell _ _ _ _ h
theorem setCells_size (b : Nat) : ∀ (vs : List Value) (o : Nat) (w : World), (w.setCells b o vs).heap.size = w.heap.size
  | [], _, _ => rfl
  | v :: vs, o, w => by rw [World.setCells, setCells_size b vs, World.size_setCell]
theorem setCells_same (b : Nat) : ∀ (vs : List Value) (o : Nat) (w : World), (w.setCells b o vs).os = w.os ∧ (w.setCells b o vs).tape = w.tape ∧ (w.setCells b o vs).output = w.output
  | [], _, _ => ⟨rfl, rfl, rfl⟩
  | v :: vs, o, w => by rw [World.setCells]; exact setCells_same b vs (o + 1) _
theorem setCell_block (w : World) (b o : Nat) (v : Value) {cur : Array Value} {T : TypeId} {fz : Nat × Nat} (h : w.heap[b]? = some (.cells cur T fz)) : ∃ cur', (w.setCell ⟨b, o, none⟩ v).heap[b]? = some (.cells cur' T fz) ∧ cur'.size = cur.size := by
  refine ⟨cur.setIfInBounds o v, ?_, by simp⟩
  simp only [World.setCell, Array.getElem?_modify, if_true, h, Option.map_some]
  simp
theorem setCells_block (b : Nat) {T : TypeId} {fz : Nat × Nat} : ∀ (vs : List Value) (o : Nat) (w : World) (cur : Array Value), w.heap[b]? = some (.cells cur T fz) → ∃ cur', (w.setCells b o vs).heap[b]? = some (.cells cur' T fz) ∧ cur'.size = cur.size
  | [], _, w, cur, h => ⟨cur, h, rfl⟩
  | v :: vs, o, w, cur, h => by
    obtain ⟨c1, h1, h2⟩ := setCell_block w b o v h
    obtain ⟨c2, h3, h4⟩ := setCells_block b vs (o + 1) _ c1 h1
    exact ⟨c2, h3, by omega⟩

/-- Cells of an object's block, behind what is shared of it, are written. -/
theorem step_setOb (hi : Inv E c) {id : Nat} {ob ob' : Ob} (hob : c.H id = some ob) (hsh : ob'.sh = ob.sh) (hlen : ob.xs.length ≤ ob'.xs.length) (hcap : ob'.xs.length ≤ c.κ id) {o : Nat} {vs : List Value} (ho : ob.sh * c.σ id ≤ o)
    (hrow : ∀ i x, ob'.xs[i]? = some x → x.length = c.σ id ∧ ∀ j d, x[j]? = some d → leaf d = true ∧ ∃ u, (c.w.setCells (c.η id) o vs).cell? ⟨c.η id, i * c.σ id + j, none⟩ = some u ∧ Rep c d u)
    (hshd : ∀ i x, ob'.xs[i]? = some x → i < ob'.sh → idFreeL x = true) :
    Step c (c.setOb id ob' o vs) ∧ Inv E (c.setOb id ob' o vs) := by
  have hO := hi.ob id ob hob
  have hlt : ∀ i ob1, c.H i = some ob1 → c.η i < c.w.heap.size := fun i ob1 h => by
    obtain ⟨cur, T, fz, h1, _⟩ := (hi.ob i ob1 h).blk
    exact (Array.getElem?_eq_some_iff.1 h1).1
  have hcell : Cells c (c.setOb id ob' o vs) := fun b off u h k => by
    refine ⟨?_, k⟩
    show (c.w.setCells (c.η id) o vs).cell? _ = _
    rw [World.cell?_setCells_out]
    · exact h
    · intro e1 _
      simp only at e1
      left
      show off < o
      rcases Nat.lt_or_ge off o with q | q
      · exact q
      · exact absurd (by rw [e1]; exact hO.res off (by omega)) k
  have hobs : ∀ i, Obl c (c.setOb id ob' o vs) i i := fun i ob1 h => by
    by_cases e : i = id
    · subst e
      rw [hob] at h; injection h with h; subst h
      exact ⟨ob', upd_same .., hlen, fun _ => ⟨rfl, rfl, rfl⟩⟩
    · exact ⟨ob1, by show upd c.H id (some ob') i = _; rw [upd_ne _ _ e]; exact h, Nat.le_refl _, fun _ => ⟨rfl, rfl, rfl⟩⟩
  have hle : Le c (c.setOb id ob' o vs) := ⟨hcell, hobs⟩
  obtain ⟨e1, e2, e3⟩ := setCells_same (c.η id) vs o c.w
  refine ⟨⟨hle, e1, e2, e3, by show _ ≤ (c.w.setCells _ _ _).heap.size; rw [setCells_size]; omega, fun b hb hn => ⟨setCells_heap_other _ _ (fun e => hn id ob hob e.symm) _ _ _, fun _ => Iff.rfl⟩, fun i ob1 h => ?_⟩, ?_⟩
  · left
    by_cases e : i = id
    · subst e; exact ⟨ob, hob, rfl⟩
    · exact ⟨ob1, by have h' : upd c.H id (some ob') i = some ob1 := h; rwa [upd_ne _ _ e] at h', rfl⟩
  · have hback : ∀ i ob1, (c.setOb id ob' o vs).H i = some ob1 → ∃ ob2, c.H i = some ob2 := fun i ob1 h => by
      by_cases e : i = id
      · subst e; exact ⟨ob, hob⟩
      · exact ⟨ob1, by have h' : upd c.H id (some ob') i = some ob1 := h; rwa [upd_ne _ _ e] at h'⟩
    refine ⟨fun i j oi oj h1 h2 e => ?_, fun b off hb => ?_, fun i ob1 h => ?_, glob_mono hle hi.glob⟩
    · obtain ⟨o1, k1⟩ := hback i oi h1
      obtain ⟨o2, k2⟩ := hback j oj h2
      exact hi.inj i j o1 o2 k1 k2 e
    · have hb' : (c.w.setCells (c.η id) o vs).heap.size ≤ b := hb
      rw [setCells_size] at hb'
      exact hi.new b off hb'
    · by_cases e : i = id
      · subst e
        have h' : ob' = ob1 := by have h' : upd c.H i (some ob') i = some ob1 := h; rw [upd_same] at h'; injection h'
        subst h'
        obtain ⟨cur, T, fz, b1, b2, b3, b0⟩ := hO.blk
        obtain ⟨cur', b4, b5⟩ := setCells_block (c.η i) vs o c.w cur b1
        refine ⟨⟨cur', T, fz, b4, by show c.κ i * c.σ i ≤ _; omega, fun q hq => ?_, b0⟩, hcap, hO.cap, fun k x hx => ?_, fun q hq => ?_, fun q hq => ?_, hshd, by have := hO.sh; omega, fun e => hO.emp (List.eq_nil_of_length_eq_zero (Nat.le_zero.1 (by rw [e] at hlen; simpa using hlen)))⟩
        · show (c.w.setCells _ _ _).frozen? _ = _
          rw [World.frozen?_setCells]
          exact b3 q (by omega)
        · obtain ⟨h1, h2⟩ := hrow k x hx
          refine ⟨h1, fun j d hd => ?_⟩
          obtain ⟨k1, u, k2, k3⟩ := h2 j d hd
          exact ⟨k1, u, k2, k3.mono hle⟩
        · rw [hsh] at hq; exact hO.res q hq
        · rw [hsh] at hq; exact hO.unr q hq
      · have h' : c.H i = some ob1 := by have h' : upd c.H id (some ob') i = some ob1 := h; rwa [upd_ne _ _ e] at h'
        have hne : c.η i ≠ c.η id := fun k => e (hi.inj i id ob1 ob h' hob k)
        exact (hi.ob i ob1 h').move rfl rfl rfl (setCells_heap_other _ _ hne _ _ _) (fun _ => Iff.rfl) hle

end
end Go.Cv
