/- What a pure value says of a value of the machine, in a world: the relation, and how it lives on while the world turns. -/
import Derived.Test.YtlfkhemmgkdjjaaGreatDoorCvEv
namespace Go.Cv
open Go.RowKit

/-- A world, and how it is seen: which cells are kept for objects (R), where each object lies (its block η, its capacity κ, an element's cells σ), what it holds. -/
structure Ctx where
  w : World
  R : Nat → Nat → Prop
  η : Nat → Nat
  κ : Nat → Nat
  σ : Nat → Nat
  H : Nat → Option Ob

/-- A pointer, a slice, whichever. -/
def IsPtr (v : Value) : Prop := ∃ a, v = .pointer (some a)
def IsSlice (v : Value) : Prop := ∃ a len cap, v = .slice a len cap

mutual
def Rep (c : Ctx) : D → Value → Prop
  | .bool b, v => v = .bool b
  | .int k n, v => v = .int k n
  | .str s, v => v = .string ⟨s.toArray⟩
  | .nilp, v => v = .pointer none
  | .ptr id n i off, v => IsPtr v ∧ ∃ ob, c.H id = some ob ∧ n ≤ ob.xs.length ∧ (n = ob.xs.length → v = .pointer (some ⟨c.η id, i * c.σ id + off, none⟩))
  | .eptr cells off, v => ∃ b o, v = .pointer (some ⟨b, o + off, none⟩) ∧ RepCells c cells b o
  | .slc xs, v => ∃ a len cap, v = .slice a len cap ∧ len = xs.length ∧ len ≤ cap ∧ cap ≤ maxLen ∧ (xs = [] ∨ ∃ b o sz, a = some ⟨b, o, none⟩ ∧ RepRows c sz xs b o)
  | .emp, v => ∃ a, v = .slice a 0 0
  | .arr id n, v => IsSlice v ∧ ∃ ob, c.H id = some ob ∧ n ≤ ob.xs.length ∧ (n = ob.xs.length → v = .slice (some ⟨c.η id, 0, none⟩) n (c.κ id))
  | .asl id n lo hi, v => IsSlice v ∧ ∃ ob, c.H id = some ob ∧ n ≤ ob.xs.length ∧ lo ≤ hi ∧ hi ≤ n ∧
      (n = ob.xs.length → ∃ a cap, v = .slice a (hi - lo) cap ∧ hi - lo ≤ cap ∧ cap ≤ maxLen ∧ (lo = hi ∨ a = some ⟨c.η id, lo * c.σ id, none⟩))
  | .fn f a b, v => ∃ va vb, v = .func f va vb ∧ RepL c a va.toList ∧ RepL c b vb.toList
  | .nilfn, v => v = .nilFunc
  | .iface t d, v => ∃ u, v = .iface t u ∧ Rep c d u
  | .niface, v => v = .nilIface
  | .agg cs, v => ∃ vs, v = .agg vs ∧ RepL c cs vs.toList
  | .tup ds, v => ∃ vs, v = .tuple vs ∧ RepL c ds vs.toList
  | .top, _ => True
def RepL (c : Ctx) : List D → List Value → Prop
  | [], vs => vs = []
  | d :: ds, vs => ∃ u us, vs = u :: us ∧ Rep c d u ∧ RepL c ds us
def RepCells (c : Ctx) : List D → Nat → Nat → Prop
  | [], _, _ => True
  | d :: ds, b, o => (idFree d = true ∧ leaf d = true ∧ ∃ u, c.w.cell? ⟨b, o, none⟩ = some u ∧ ¬ c.R b o ∧ Rep c d u) ∧ RepCells c ds b (o + 1)
def RepRows (c : Ctx) (sz : Nat) : List (List D) → Nat → Nat → Prop
  | [], _, _ => True
  | x :: xs, b, o => x.length = sz ∧ RepCells c x b o ∧ RepRows c sz xs b (o + sz)
end

/-- What is read alone is as it was. -/
def Cells (c c' : Ctx) : Prop :=
  ∀ b o u, c.w.cell? ⟨b, o, none⟩ = some u → ¬ c.R b o → c'.w.cell? ⟨b, o, none⟩ = some u ∧ ¬ c'.R b o

theorem Cells.refl (c : Ctx) : Cells c c := fun _ _ _ h k => ⟨h, k⟩
theorem Cells.trans {a b c : Ctx} (h : Cells a b) (k : Cells b c) : Cells a c := fun x y u p q => let ⟨p', q'⟩ := h x y u p q; k x y u p' q'

/-- An object is still there; while it has as many elements it lies where it lay. -/
def Obl (c c' : Ctx) (i j : Nat) : Prop :=
  ∀ ob, c.H i = some ob → ∃ ob', c'.H j = some ob' ∧ ob.xs.length ≤ ob'.xs.length ∧ (ob'.xs.length = ob.xs.length → c'.η j = c.η i ∧ c'.κ j = c.κ i ∧ c'.σ j = c.σ i)

mutual
theorem Rep.free {c c' : Ctx} (hc : Cells c c') : (d : D) → (v : Value) → idFree d = true → Rep c d v → Rep c' d v
  | .bool _, _, _, h => by simpa only [Rep] using h
  | .int _ _, _, _, h => by simpa only [Rep] using h
  | .str _, _, _, h => by simpa only [Rep] using h
  | .nilp, _, _, h => by simpa only [Rep] using h
  | .ptr .., _, hf, _ => by simp [idFree] at hf
  | .eptr cells off, v, _, h => by
    simp only [Rep] at h ⊢
    obtain ⟨b, o, hv, hr⟩ := h
    exact ⟨b, o, hv, RepCells.free hc cells b o hr⟩
  | .slc xs, v, _, h => by
    simp only [Rep] at h ⊢
    obtain ⟨a, len, cap, hv, h1, h2, h3, h4⟩ := h
    refine ⟨a, len, cap, hv, h1, h2, h3, ?_⟩
    rcases h4 with h4 | ⟨b, o, sz, ha, hr⟩
    · exact .inl h4
    · exact .inr ⟨b, o, sz, ha, RepRows.free hc sz xs b o hr⟩
  | .emp, _, _, h => by simpa only [Rep] using h
  | .arr .., _, hf, _ => by simp [idFree] at hf
  | .asl .., _, hf, _ => by simp [idFree] at hf
  | .fn f a b, v, hf, h => by
    simp only [Rep] at h ⊢
    simp only [idFree, Bool.and_eq_true] at hf
    obtain ⟨va, vb, hv, h1, h2⟩ := h
    exact ⟨va, vb, hv, RepL.free hc a _ hf.1 h1, RepL.free hc b _ hf.2 h2⟩
  | .nilfn, _, _, h => by simpa only [Rep] using h
  | .iface t d, v, hf, h => by
    simp only [Rep] at h ⊢
    simp only [idFree] at hf
    obtain ⟨u, hv, h1⟩ := h
    exact ⟨u, hv, Rep.free hc d u hf h1⟩
  | .niface, _, _, h => by simpa only [Rep] using h
  | .agg cs, v, hf, h => by
    simp only [Rep] at h ⊢
    simp only [idFree] at hf
    obtain ⟨vs, hv, h1⟩ := h
    exact ⟨vs, hv, RepL.free hc cs _ hf h1⟩
  | .tup ds, v, hf, h => by
    simp only [Rep] at h ⊢
    simp only [idFree] at hf
    obtain ⟨vs, hv, h1⟩ := h
    exact ⟨vs, hv, RepL.free hc ds _ hf h1⟩
  | .top, _, _, _ => by simp only [Rep]
theorem RepL.free {c c' : Ctx} (hc : Cells c c') : (ds : List D) → (vs : List Value) → idFreeL ds = true → RepL c ds vs → RepL c' ds vs
  | [], vs, _, h => by simpa only [RepL] using h
  | d :: ds, vs, hf, h => by
    simp only [RepL] at h ⊢
    simp only [idFreeL, Bool.and_eq_true] at hf
    obtain ⟨u, us, hv, h1, h2⟩ := h
    exact ⟨u, us, hv, Rep.free hc d u hf.1 h1, RepL.free hc ds us hf.2 h2⟩
theorem RepCells.free {c c' : Ctx} (hc : Cells c c') : (ds : List D) → (b o : Nat) → RepCells c ds b o → RepCells c' ds b o
  | [], _, _, _ => by simp only [RepCells]
  | d :: ds, b, o, h => by
    simp only [RepCells] at h ⊢
    obtain ⟨⟨h1, h2, u, h3, h4, h5⟩, h6⟩ := h
    exact ⟨⟨h1, h2, u, (hc b o u h3 h4).1, (hc b o u h3 h4).2, Rep.free hc d u h1 h5⟩, RepCells.free hc ds b (o + 1) h6⟩
theorem RepRows.free {c c' : Ctx} (hc : Cells c c') (sz : Nat) : (xs : List (List D)) → (b o : Nat) → RepRows c sz xs b o → RepRows c' sz xs b o
  | [], _, _, _ => by simp only [RepRows]
  | x :: xs, b, o, h => by
    simp only [RepRows] at h ⊢
    exact ⟨h.1, RepCells.free hc x b o h.2.1, RepRows.free hc sz xs b (o + sz) h.2.2⟩
end

mutual
theorem Rep.ren {c c' : Ctx} {g : Nat → Nat} (hc : Cells c c') : (d : D) → (v : Value) → (∀ id ∈ ids d, Obl c c' id (g id)) → Rep c d v → Rep c' (ren g d) v
  | .bool _, _, _, h => by simpa only [Rep, ren] using h
  | .int _ _, _, _, h => by simpa only [Rep, ren] using h
  | .str _, _, _, h => by simpa only [Rep, ren] using h
  | .nilp, _, _, h => by simpa only [Rep, ren] using h
  | .ptr id n i off, v, ho, h => by
    simp only [Rep, Cv.ren] at h ⊢
    obtain ⟨hs, ob, h1, h2, h3⟩ := h
    obtain ⟨ob', k1, k2, k3⟩ := ho id (by simp [ids]) ob h1
    refine ⟨hs, ob', k1, by omega, fun e => ?_⟩
    obtain ⟨e1, e2, e3⟩ := k3 (by omega)
    rw [h3 (by omega), e1, e3]
  | .eptr cells off, v, _, h => by
    simp only [Rep, Cv.ren] at h ⊢
    obtain ⟨b, o, hv, hr⟩ := h
    exact ⟨b, o, hv, RepCells.free hc cells b o hr⟩
  | .slc xs, v, _, h => by
    simp only [Rep, Cv.ren] at h ⊢
    obtain ⟨a, len, cap, hv, h1, h2, h3, h4⟩ := h
    refine ⟨a, len, cap, hv, h1, h2, h3, ?_⟩
    rcases h4 with h4 | ⟨b, o, sz, ha, hr⟩
    · exact .inl h4
    · exact .inr ⟨b, o, sz, ha, RepRows.free hc sz xs b o hr⟩
  | .emp, _, _, h => by simpa only [Rep, ren] using h
  | .arr id n, v, ho, h => by
    simp only [Rep, Cv.ren] at h ⊢
    obtain ⟨hs, ob, h1, h2, h3⟩ := h
    obtain ⟨ob', k1, k2, k3⟩ := ho id (by simp [ids]) ob h1
    refine ⟨hs, ob', k1, by omega, fun e => ?_⟩
    obtain ⟨e1, e2, e3⟩ := k3 (by omega)
    rw [h3 (by omega), e1, e2]
  | .asl id n lo hi, v, ho, h => by
    simp only [Rep, Cv.ren] at h ⊢
    obtain ⟨hs, ob, h1, h2, h4, h5, h3⟩ := h
    obtain ⟨ob', k1, k2, k3⟩ := ho id (by simp [ids]) ob h1
    refine ⟨hs, ob', k1, by omega, h4, h5, fun e => ?_⟩
    obtain ⟨e1, e2, e3⟩ := k3 (by omega)
    rw [e1, e3]
    exact h3 (by omega)
  | .fn f a b, v, ho, h => by
    simp only [Rep, Cv.ren] at h ⊢
    obtain ⟨va, vb, hv, h1, h2⟩ := h
    exact ⟨va, vb, hv, RepL.ren hc a _ (fun id hi => ho id (by simp [ids, hi])) h1, RepL.ren hc b _ (fun id hi => ho id (by simp [ids, hi])) h2⟩
  | .nilfn, _, _, h => by simpa only [Rep, ren] using h
  | .iface t d, v, ho, h => by
    simp only [Rep, Cv.ren] at h ⊢
    obtain ⟨u, hv, h1⟩ := h
    exact ⟨u, hv, Rep.ren hc d u (fun id hi => ho id (by simpa [ids] using hi)) h1⟩
  | .niface, _, _, h => by simpa only [Rep, ren] using h
  | .agg cs, v, ho, h => by
    simp only [Rep, Cv.ren] at h ⊢
    obtain ⟨vs, hv, h1⟩ := h
    exact ⟨vs, hv, RepL.ren hc cs _ (fun id hi => ho id (by simpa [ids] using hi)) h1⟩
  | .tup ds, v, ho, h => by
    simp only [Rep, Cv.ren] at h ⊢
    obtain ⟨vs, hv, h1⟩ := h
    exact ⟨vs, hv, RepL.ren hc ds _ (fun id hi => ho id (by simpa [ids] using hi)) h1⟩
  | .top, _, _, _ => by simp only [Rep, Cv.ren]
theorem RepL.ren {c c' : Ctx} {g : Nat → Nat} (hc : Cells c c') : (ds : List D) → (vs : List Value) → (∀ id ∈ idsL ds, Obl c c' id (g id)) → RepL c ds vs → RepL c' (renL g ds) vs
  | [], vs, _, h => by simpa only [RepL, renL] using h
  | d :: ds, vs, ho, h => by
    simp only [RepL, renL] at h ⊢
    obtain ⟨u, us, hv, h1, h2⟩ := h
    exact ⟨u, us, hv, Rep.ren hc d u (fun id hi => ho id (by simp [idsL, hi])) h1, RepL.ren hc ds us (fun id hi => ho id (by simp [idsL, hi])) h2⟩
end

mutual
theorem ren_id : (d : D) → ren (fun i => i) d = d
  | .bool _ | .int _ _ | .str _ | .nilp | .ptr .. | .eptr .. | .slc _ | .emp | .arr .. | .asl .. | .nilfn | .niface | .top => by simp only [ren]
  | .fn f a b => by simp only [ren, renL_id a, renL_id b]
  | .iface t d => by simp only [ren, ren_id d]
  | .agg cs => by simp only [ren, renL_id cs]
  | .tup ds => by simp only [ren, renL_id ds]
theorem renL_id : (ds : List D) → renL (fun i => i) ds = ds
  | [] => by simp only [renL]
  | d :: ds => by simp only [renL, ren_id d, renL_id ds]
end

/-- The world turns: what is read alone is as it was, no object goes, each lies where it lay while it has as many elements. -/
structure Le (c c' : Ctx) : Prop where
  cells : Cells c c'
  obs : ∀ id, Obl c c' id id

theorem Rep.mono {c c' : Ctx} (h : Le c c') {d : D} {v : Value} (hr : Rep c d v) : Rep c' d v := by
  have := Rep.ren (g := fun i => i) h.cells d v (fun id _ => h.obs id) hr
  rwa [ren_id] at this
theorem RepL.mono {c c' : Ctx} (h : Le c c') {ds : List D} {vs : List Value} (hr : RepL c ds vs) : RepL c' ds vs := by
  have := RepL.ren (g := fun i => i) h.cells ds vs (fun id _ => h.obs id) hr
  rwa [renL_id] at this
theorem Le.refl (c : Ctx) : Le c c := ⟨Cells.refl c, fun _ ob h => ⟨ob, h, Nat.le_refl _, fun _ => ⟨rfl, rfl, rfl⟩⟩⟩
theorem Le.trans {a b c : Ctx} (h : Le a b) (k : Le b c) : Le a c := by
  refine ⟨h.cells.trans k.cells, fun id ob ho => ?_⟩
  obtain ⟨o1, h1, h2, h3⟩ := h.obs id ob ho
  obtain ⟨o2, k1, k2, k3⟩ := k.obs id o1 h1
  refine ⟨o2, k1, by omega, fun e => ?_⟩
  obtain ⟨a1, a2, a3⟩ := h3 (by omega)
  obtain ⟨b1, b2, b3⟩ := k3 (by omega)
  exact ⟨b1.trans a1, b2.trans a2, b3.trans a3⟩

/-! ### Lists of values -/
theorem RepL.length {c : Ctx} : {ds : List D} → {vs : List Value} → RepL c ds vs → vs.length = ds.length
  | [], _, h => by simp only [RepL] at h; simp [h]
  | d :: ds, _, h => by
    simp only [RepL] at h
    obtain ⟨u, us, rfl, _, h2⟩ := h
    simp [RepL.length h2]
theorem RepL.get {c : Ctx} : {ds : List D} → {vs : List Value} → RepL c ds vs → (i : Nat) → (d : D) → ds[i]? = some d → ∃ u, vs[i]? = some u ∧ Rep c d u
  | [], _, _, _, _, e => by simp at e
  | d :: ds, _, h, i, x, e => by
    simp only [RepL] at h
    obtain ⟨u, us, rfl, h1, h2⟩ := h
    cases i with
    | zero => simp at e; subst e; exact ⟨u, rfl, h1⟩
    | succ i => simpa using RepL.get h2 i x (by simpa using e)
theorem RepL.of {c : Ctx} : {ds : List D} → {vs : List Value} → vs.length = ds.length → (∀ (i : Nat) (d : D) (u : Value), ds[i]? = some d → vs[i]? = some u → Rep c d u) → RepL c ds vs
  | [], vs, hl, _ => by simp only [RepL]; exact List.eq_nil_of_length_eq_zero (by simpa using hl)
  | d :: ds, [], hl, _ => by simp at hl
  | d :: ds, u :: us, hl, h => by
    simp only [RepL]
    exact ⟨u, us, rfl, h 0 d u rfl rfl, RepL.of (by simpa using hl) fun i x y hx hy => h (i + 1) x y (by simpa using hx) (by simpa using hy)⟩
theorem RepL.append {c : Ctx} {as bs : List D} {us vs : List Value} (h : RepL c as us) (k : RepL c bs vs) : RepL c (as ++ bs) (us ++ vs) := by
  induction as generalizing us with
  | nil => simp only [RepL] at h; subst h; simpa using k
  | cons a as ih =>
    simp only [RepL] at h
    obtain ⟨u, us, rfl, h1, h2⟩ := h
    simp only [List.cons_append, RepL]
    exact ⟨u, us ++ vs, rfl, h1, ih h2⟩

theorem RepCells.get {c : Ctx} : {ds : List D} → {b o : Nat} → RepCells c ds b o → (i : Nat) → (d : D) → ds[i]? = some d →
    idFree d = true ∧ leaf d = true ∧ ∃ u, c.w.cell? ⟨b, o + i, none⟩ = some u ∧ ¬ c.R b (o + i) ∧ Rep c d u
  | [], _, _, _, _, _, e => by simp at e
  | d :: ds, b, o, h, i, x, e => by
    simp only [RepCells] at h
    cases i with
    | zero => simp at e; subst e; exact h.1
    | succ i =>
      have := RepCells.get h.2 i x (by simpa using e)
      rwa [show o + 1 + i = o + (i + 1) by omega] at this
theorem RepCells.of {c : Ctx} : {ds : List D} → {b o : Nat} → (∀ (i : Nat) (d : D), ds[i]? = some d → idFree d = true ∧ leaf d = true ∧ ∃ u, c.w.cell? ⟨b, o + i, none⟩ = some u ∧ ¬ c.R b (o + i) ∧ Rep c d u) → RepCells c ds b o
  | [], _, _, _ => by simp only [RepCells]
  | d :: ds, b, o, h => by
    simp only [RepCells]
    refine ⟨h 0 d rfl, RepCells.of fun i x hx => ?_⟩
    have := h (i + 1) x (by simpa using hx)
    rwa [show o + (i + 1) = o + 1 + i by omega] at this
theorem RepRows.get {c : Ctx} {sz : Nat} : {xs : List (List D)} → {b o : Nat} → RepRows c sz xs b o → (i : Nat) → (x : List D) → xs[i]? = some x → x.length = sz ∧ RepCells c x b (o + i * sz)
  | [], _, _, _, _, _, e => by simp at e
  | y :: xs, b, o, h, i, x, e => by
    simp only [RepRows] at h
    cases i with
    | zero => simp at e; subst e; simpa using ⟨h.1, h.2.1⟩
    | succ i =>
      have := RepRows.get h.2.2 i x (by simpa using e)
      rwa [show o + sz + i * sz = o + (i + 1) * sz by rw [Nat.add_mul]; omega] at this
theorem RepRows.of {c : Ctx} {sz : Nat} : {xs : List (List D)} → {b o : Nat} → (∀ (i : Nat) (x : List D), xs[i]? = some x → x.length = sz ∧ RepCells c x b (o + i * sz)) → RepRows c sz xs b o
  | [], _, _, _ => by simp only [RepRows]
  | y :: xs, b, o, h => by
    simp only [RepRows]
    have h0 := h 0 y rfl
    refine ⟨h0.1, by simpa using h0.2, RepRows.of fun i x hx => ?_⟩
    have := h (i + 1) x (by simpa using hx)
    rwa [show o + (i + 1) * sz = o + sz + i * sz by rw [Nat.add_mul]; omega] at this

/-- What a leaf is told by is one cell's value. -/
theorem Rep.leaf {c : Ctx} {d : D} {v : Value} (h : Rep c d v) (hl : Cv.leaf d = true) : (∀ cs, v ≠ .agg cs) ∧ (∀ vs, v ≠ .tuple vs) := by
  cases d <;> simp only [Rep, IsPtr, IsSlice] at h <;> first
    | (simp [Cv.leaf] at hl; done)
    | (subst h; exact ⟨fun _ => by simp, fun _ => by simp⟩)
    | (obtain ⟨_, rfl⟩ := h; exact ⟨fun _ => by simp, fun _ => by simp⟩)
    | (obtain ⟨_, rfl, _⟩ := h; exact ⟨fun _ => by simp, fun _ => by simp⟩)
    | (obtain ⟨_, _, rfl, _⟩ := h; exact ⟨fun _ => by simp, fun _ => by simp⟩)
    | (obtain ⟨_, _, _, rfl, _⟩ := h; exact ⟨fun _ => by simp, fun _ => by simp⟩)
    | (obtain ⟨⟨_, rfl⟩, _⟩ := h; exact ⟨fun _ => by simp, fun _ => by simp⟩)
    | (obtain ⟨⟨_, _, _, rfl⟩, _⟩ := h; exact ⟨fun _ => by simp, fun _ => by simp⟩)

end Go.Cv
