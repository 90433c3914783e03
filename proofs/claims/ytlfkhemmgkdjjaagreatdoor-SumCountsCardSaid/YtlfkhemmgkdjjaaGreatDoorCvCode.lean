/- Regions in order, code, a whole function. -/
import Derived.Test.YtlfkhemmgkdjjaaGreatDoorCvEff
import Derived.LoopN
import Derived.Tactics
set_option linter.unusedSimpArgs false
set_option linter.unusedVariables false
namespace Go.Cv
open Go.RowKit

section
variable {P : Program} {E : Env} {c : Ctx} {call : CallF}

theorem wantD_sound {ops : Array Oper} {T : Ts} {tmps : Array Value} (hT : TRep c T tmps) {o : Oper} {b : Bool} (h : wantD ops T o = some b) : Region.wanted o (yielded ops tmps) = b := by
  unfold wantD at h
  unfold Region.wanted
  cases hg : o.guard with
  | none => rw [hg] at h; simpa using h
  | some p =>
    obtain ⟨j, want⟩ := p
    rw [hg] at h
    simp only at h ⊢
    unfold yielded
    cases hd : (ops[j]?).bind (·.dst) with
    | none => rw [hd] at h; simp only [Option.some.injEq] at h; subst h; rfl
    | some t =>
      rw [hd] at h
      simp only [Option.bind_some] at h ⊢
      have hlt : T.get t ≠ .top → t < T.n := fun hne => by
        rcases Nat.lt_or_ge t T.n with g | g
        · exact g
        · exact absurd (hT.2.2 t g) hne
      split at h
      · rename_i b0 hb
        have ht := hlt (by rw [hb]; intro e; cases e)
        have hr := hT.2.1 t ht
        rw [hb] at hr
        simp only [Rep] at hr
        have hx : tmps[t]? = some (.bool b0) := by
          have hs : t < tmps.size := by rw [hT.1]; exact ht
          rw [Array.getElem?_eq_getElem hs]
          simpa [Array.getD, hs] using hr
        rw [hx]
        simp only [Option.some.injEq] at h
        subst h
        cases b0 <;> cases want <;> rfl
      · rename_i ds hb
        have ht := hlt (by rw [hb]; intro e; cases e)
        have hr := hT.2.1 t ht
        rw [hb] at hr
        simp only [Rep] at hr
        obtain ⟨vs, hr, _⟩ := hr
        have hx : tmps[t]? = some (.tuple vs) := by
          have hs : t < tmps.size := by rw [hT.1]; exact ht
          rw [Array.getElem?_eq_getElem hs]
          simpa [Array.getD, hs] using hr
        rw [hx]
        simp only [Option.some.injEq] at h
        subst h
        rfl
      · cases h

theorem rep_undef : Rep c (.tup []) undef := by simp only [Rep]; exact ⟨#[], rfl, by simp [RepL]⟩

/-- A state of the evaluator, a state of the machine. -/
structure Sim (E : Env) (c : Ctx) (T : Ts) (H : Heap) (a : Act) : Prop where
  inv : Inv E c
  heap : c.H = fun i => H[i]?
  tmps : TRep c T a.tmps
  def_ : a.defers = []

theorem New.heap {f f' : Nat → Option Ob} {H : Heap} {new : List Ob} (hf : f = fun i => H[i]?) (h : New f f' H.length new) : f' = fun i => (H ++ new)[i]? := by
  funext i
  rw [h i, hf]
  by_cases hi : H.length ≤ i ∧ i < H.length + new.length
  · rw [if_pos hi, List.getElem?_append_right hi.1]
  · rw [if_neg hi]
    simp only
    rcases Nat.lt_or_ge i H.length with g | g
    · rw [List.getElem?_append_left g]
    · rw [List.getElem?_eq_none g, List.getElem?_eq_none (by simp; omega)]

/-- What an operation leaves. -/
theorem evOp_sound (hE : EnvOK P E) (hcall : CallOK P E call) {T : Ts} {H : Heap} {a : Act} (hs : Sim E c T H a) {f r i : Nat} {o : Oper} {res : OpR} (h : evOp E call f r i o (opd E T) H = some res) :
    match (res : OpR) with
    | .val d H' => ∀ (next : Act → World → Prop) (Q : Exit → Act → World → Prop), (∀ v c', Step c c' → Inv E c' → Rep c' d v → c'.H = (fun i => H'[i]?) → next (a.put o.dst v) c'.w) → o.wp P a c.w next Q
    | .pan d H' => ∀ (next : Act → World → Prop) (Q : Exit → Act → World → Prop), (∀ v c', Step c c' → Inv E c' → Rep c' d v → c'.H = (fun i => H'[i]?) → Q (.panic [{ v := v, recovered := false }]) a c'.w) → o.wp P a c.w next Q := by
  have hr : Ready E c o (opd E T) a H := ⟨fun x _ => rep_opd hs.inv hs.tmps x, fun id _ ob ho => by rw [hs.heap]; exact ho⟩
  have hnone : ∀ i, H.length ≤ i → c.H i = none := fun i hi => by rw [hs.heap]; exact List.getElem?_eq_none hi
  unfold evOp at h
  split at h
  · rename_i d new hp
    injection h with h
    subst h
    have := pure_sound hs.inv hE (pure_call hcall) hr.here (fun j _ => hnone _ (by omega)) hp
    intro next Q hq
    exact this next Q fun v c' k1 k2 k3 k4 => hq v c' k1 k2 k3 (k4.heap hs.heap)
  · have := eff_sound hs.inv hE hcall hr (fun i hi _ => hnone i hi) h
    cases res with
    | val d H' =>
      intro next Q hq
      exact this next Q fun v c' W k1 k2 k3 _ k5 => hq v c' k1 k2 k3 (k5.heap hs.heap)
    | pan d H' =>
      intro next Q hq
      exact this next Q fun v c' W k1 k2 k3 _ k5 => hq v c' k1 k2 k3 (k5.heap hs.heap)

theorem put_defers (a : Act) (d : Option Tmp) (v : Value) : (a.put d v).defers = a.defers := by cases d <;> rfl

theorem Sim.put {T T' : Ts} {H H' : Heap} {a : Act} (hs : Sim E c T H a) {c' : Ctx} (h1 : Step c c') (h2 : Inv E c') (h3 : c'.H = fun i => H'[i]?) {dst : Option Tmp} {d : D} {v : Value} (hr : Rep c' d v) (hp : Cv.put T dst d = some T') : Sim E c' T' H' (a.put dst v) :=
  ⟨h2, h3, (hs.tmps.mono h1.le).put hp hr, by rw [put_defers]; exact hs.def_⟩

theorem evOps_sound (hE : EnvOK P E) (hcall : CallOK P E call) {f r : Nat} {ops : Array Oper} {Q : Exit → Act → World → Prop} : (l : List Oper) → {i : Nat} → {T : Ts} → {H : Heap} → {a : Act} → {c : Ctx} → Sim E c T H a → {pd : Option D} → {T' : Ts} → {H' : Heap} →
    evOps E call f r ops i l T H = some (pd, T', H') →
    (match pd with
     | none => ∀ c' a', Step c c' → Sim E c' T' H' a' → Q .normal a' c'.w
     | some d => ∀ c' a' v, Step c c' → Inv E c' → c'.H = (fun i => H'[i]?) → a'.defers = [] → Rep c' d v → Q (.panic [{ v := v, recovered := false }]) a' c'.w) →
    wpList P ops Q l a c.w
  | [], i, T, H, a, c, hs, pd, T', H', h, hq => by
    simp only [evOps, Option.some.injEq, Prod.mk.injEq] at h
    obtain ⟨rfl, rfl, rfl⟩ := h
    exact hq c a (Step.refl c) hs
  | o :: rest, i, T, H, a, c, hs, pd, T', H', h, hq => by
    unfold evOps at h
    unfold wpList
    split at h
    · cases h
    · rename_i hw
      have hw' := wantD_sound hs.tmps hw
      rw [hw', if_neg (by simp)]
      split at h
      case h_2 => cases h
      rename_i T1 hT1
      exact evOps_sound hE hcall rest (hs.put (Step.refl c) hs.inv hs.heap rep_undef hT1) h hq
    · rename_i hw
      have hw' := wantD_sound hs.tmps hw
      rw [hw', if_pos rfl]
      left
      split at h
      · cases h
      · rename_i d H1 hop
        split at h
        case h_2 => cases h
        rename_i T1 hT1
        refine evOp_sound hE hcall hs hop _ _ fun v c' k1 k2 k3 k4 => ?_
        refine evOps_sound hE hcall rest (hs.put k1 k2 k4 k3 hT1) h ?_
        cases pd with
        | none => exact fun c2 a2 m1 m2 => hq c2 a2 (k1.trans m1) m2
        | some d => exact fun c2 a2 v m1 m2 m3 m4 m5 => hq c2 a2 v (k1.trans m1) m2 m3 m4 m5
      · rename_i d H1 hop
        simp only [Option.some.injEq, Prod.mk.injEq] at h
        obtain ⟨rfl, rfl, rfl⟩ := h
        exact evOp_sound hE hcall hs hop _ _ fun v c' k1 k2 k3 k4 => hq c' a v k1 k2 k4 hs.def_ k3

/-! ### Objects dropped between two rounds of a loop -/
def Ctx.drop (c : Ctx) (n : Nat) : Ctx := { c with H := fun i => if i < n then c.H i else none }

theorem drop_obl {n id : Nat} (h : id < n) : Obl c (c.drop n) id id := fun ob ho => ⟨ob, by show (if id < n then c.H id else none) = _; rw [if_pos h]; exact ho, Nat.le_refl _, fun _ => ⟨rfl, rfl, rfl⟩⟩

theorem drop_rep {n : Nat} {d : D} {v : Value} (h : ∀ id ∈ ids d, id < n) (hr : Rep c d v) : Rep (c.drop n) d v := by
  have := Rep.ren (c := c) (c' := c.drop n) (g := fun i => i) (fun b o u h k => ⟨h, k⟩) d v (fun id hid => drop_obl (h id hid)) hr
  rwa [ren_id] at this

theorem renL_idOf : (l : List (List D)) → l.map (renL fun i => i) = l
  | [] => rfl
  | x :: l => by simp [renL_id, renL_idOf l]

theorem step_drop {c0 : Ctx} (hi : Inv E c) (hs : Step c0 c) {n : Nat} (hn : ∀ i ob, c0.H i = some ob → i < n) (hcl : ∀ i ob, i < n → c.H i = some ob → ∀ id ∈ obIds ob, id < n) : Step c0 (c.drop n) ∧ Inv E (c.drop n) := by
  have hback : ∀ i ob, (c.drop n).H i = some ob → i < n ∧ c.H i = some ob := fun i ob h => by
    have h' : (if i < n then c.H i else none) = some ob := h
    split at h'
    · rename_i hlt; exact ⟨hlt, h'⟩
    · cases h'
  have hcells : Cells c (c.drop n) := fun b o u h k => ⟨h, k⟩
  refine ⟨⟨⟨fun b o u h k => hs.le.cells b o u h k, fun i ob ho => ?_⟩, hs.os, hs.tape, hs.output, hs.size, hs.frame, fun i ob ho => hs.fresh i ob (hback i ob ho).2⟩, ⟨fun i j oi oj h1 h2 e => hi.inj i j oi oj (hback i oi h1).2 (hback j oj h2).2 e, hi.new, fun i ob ho => ?_, fun g cells hg => RepCells.free hcells _ _ _ (hi.glob g cells hg)⟩⟩
  · obtain ⟨ob', h1, h2, h3⟩ := hs.le.obs i ob ho
    refine ⟨ob', ?_, h2, h3⟩
    show (if i < n then c.H i else none) = _
    rw [if_pos (hn i ob ho)]
    exact h1
  · obtain ⟨hlt, ho'⟩ := hback i ob ho
    have := (hi.ob i ob ho').ren (c' := c.drop n) (j := i) (g := fun i => i) rfl rfl rfl rfl (fun _ => Iff.rfl) hcells (fun id hid => drop_obl (hcl i ob hlt ho' id hid))
    unfold obRen at this
    rw [renL_idOf] at this
    exact this

theorem Tm.ofDepth_get (f : Nat → D) : (k at_ step i : Nat) → (Tm.ofDepth f k at_ step).get i = f (at_ + i * step) ∨ (Tm.ofDepth f k at_ step).get i = .top
  | 0, at_, step, i => .inr rfl
  | k + 1, at_, step, i => by
    by_cases h0 : i = 0
    · subst h0
      left
      simp [Tm.ofDepth, Tm.get]
    · by_cases h1 : i % 2 = 1
      · simp only [Tm.ofDepth, Tm.get, beqF h0, cond_false, beqT h1, cond_true]
        have := Tm.ofDepth_get f k (at_ + step) (step * 2) (i / 2)
        have e : at_ + step + i / 2 * (step * 2) = at_ + i * step := by
          have hh : i = 2 * (i / 2) + 1 := by omega
          generalize i / 2 = q at hh ⊢
          subst hh
          rw [Nat.add_mul, Nat.one_mul, Nat.mul_comm step 2, ← Nat.mul_assoc, Nat.mul_comm q 2]
          omega
        rwa [e] at this
      · simp only [Tm.ofDepth, Tm.get, beqF h0, cond_false, beqF h1]
        have := Tm.ofDepth_get f k (at_ + step * 2) (step * 2) (i / 2 - 1)
        have e : at_ + step * 2 + (i / 2 - 1) * (step * 2) = at_ + i * step := by
          have hh : i = 2 * (i / 2 - 1) + 2 := by omega
          generalize i / 2 - 1 = q at hh ⊢
          subst hh
          rw [Nat.add_mul, Nat.mul_comm step 2, ← Nat.mul_assoc, Nat.mul_comm q 2]
          omega
        rwa [e] at this

theorem Ts.of_get (n : Nat) (args : List D) (i : Nat) : (Ts.of n args).get i = args.getD i .top ∨ (Ts.of n args).get i = .top := by
  have := Tm.ofDepth_get (fun i => args.getD i .top) (depthOf n) 0 1 i
  simpa [Ts.get, Ts.of] using this

theorem keepOnly_get (T : Ts) : (l : List Nat) → (keepOnly T l).n = T.n ∧ ∀ i, (keepOnly T l).get i = .top ∨ (i ∈ l ∧ (keepOnly T l).get i = T.get i)
  | [] => ⟨rfl, fun i => by
    left
    rcases Ts.of_get T.n [] i with h | h
    · rw [keepOnly, h]; simp
    · exact h⟩
  | j :: l => by
    obtain ⟨h1, h2⟩ := keepOnly_get T l
    unfold keepOnly
    split
    · rename_i T' hs
      refine ⟨(Ts.set_n hs).1.trans h1, fun i => ?_⟩
      by_cases e : j = i
      · subst e
        rcases Ts.get_set_eq hs with k | k
        · exact .inr ⟨by simp, k⟩
        · exact .inl k
      · rw [Ts.get_set_ne hs e]
        rcases h2 i with k | ⟨k1, k2⟩
        · exact .inl k
        · exact .inr ⟨by simp [k1], k2⟩
    · refine ⟨h1, fun i => ?_⟩
      rcases h2 i with k | ⟨k1, k2⟩
      · exact .inl k
      · exact .inr ⟨by simp [k1], k2⟩

theorem Ts.of_rep {n : Nat} {args : List D} {vs : Array Value} (h : RepL c args vs.toList) (hn : args.length ≤ n) : TRep c (Ts.of n args) (vs ++ Array.replicate (n - vs.size) undef) := by
  have hl : vs.size = args.length := by have := h.length; simpa using this
  refine ⟨by show _ = n; simp; omega, fun i hi => ?_, fun i hi => ?_⟩
  · rcases Ts.of_get n args i with k | k
    · rw [k]
      rcases Nat.lt_or_ge i args.length with g | g
      · obtain ⟨u, u1, u2⟩ := h.get i args[i] (List.getElem?_eq_getElem g)
        have e1 : args.getD i .top = args[i] := by simp [List.getD, g]
        have e2 : (vs ++ Array.replicate (n - vs.size) undef).getD i undef = u := by
          have : vs[i]? = some u := by simpa using u1
          obtain ⟨q1, q2⟩ := Array.getElem?_eq_some_iff.1 this
          simp [Array.getD, Array.getElem_append, q1, q2]
          omega
        rw [e1, e2]
        exact u2
      · have : args.getD i .top = .top := by simp [List.getD, List.getElem?_eq_none g]
        rw [this]; simp only [Rep]
    · rw [k]; simp only [Rep]
  · rcases Ts.of_get n args i with k | k
    · rw [k]
      have hi' : n ≤ i := hi
      simp [List.getD, List.getElem?_eq_none (show args.length ≤ i by omega)]
    · exact k

end
end Go.Cv
