/- Code, a function, calls of any depth. -/
import Derived.Test.YtlfkhemmgkdjjaaGreatDoorCvCode
set_option linter.unusedSimpArgs false
set_option linter.unusedVariables false
namespace Go.Cv
open Go.RowKit

section
variable {P : Program} {E : Env} {c : Ctx} {call : CallF}

def ExRep (c : Ctx) : Ex → Exit → Prop
  | .normal, e => e = .normal
  | .exit id, e => e = .exit id
  | .ret, e => e = .ret
  | .panic d, e => ∃ v, e = .panic [{ v := v, recovered := false }] ∧ Rep c d v

/-- What code leaves: the way out, the world behind it. -/
def After (E : Env) (c : Ctx) (ex : Ex) (s : St) (e : Exit) (a : Act) (w : World) : Prop :=
  ∃ c', c'.w = w ∧ Step c c' ∧ Inv E c' ∧ c'.H = (fun i => s.H[i]?) ∧ a.defers = [] ∧ ExRep c' ex e ∧ ((∀ d, ex ≠ .panic d) → TRep c' s.T a.tmps)

theorem After.trans {c0 : Ctx} (hs : Step c0 c) {ex : Ex} {s : St} {e : Exit} {a : Act} {w : World} (h : After E c ex s e a w) : After E c0 ex s e a w := by
  obtain ⟨c', h1, h2, h3⟩ := h
  exact ⟨c', h1, hs.trans h2, h3⟩

/-- What a region that draws its order is worth. -/
def DrawnOK (P : Program) (E : Env) (call : CallF) : Prop :=
  ∀ (f r : Nat) (ops : Array Oper) (T T' : Ts) (H H' : Heap) (l : List (Bool × List Nat)) (c : Ctx) (a : Act), drawnOK E ops.toList (E.pairs f r) = true → evDrawn E call f r ops 0 ops.toList T H = some (T', H', l) →
    (E.pairs f r).all (apart l) = true → Sim E c T H a → (Code.region r ops true).wp P (After E c .normal ⟨T', H'⟩) a c.w

theorem Sim.after {T : Ts} {H : Heap} {a : Act} (h : Sim E c T H a) {ex : Ex} {e : Exit} (hx : ExRep c ex e) : After E c ex ⟨T, H⟩ e a c.w :=
  ⟨c, rfl, Step.refl c, h.inv, h.heap, h.def_, hx, fun _ => h.tmps⟩

theorem reset_sim {c0 : Ctx} {n : Nat} (h0 : ∀ i ob, c0.H i = some ob → i < n) (hs : Step c0 c) {T : Ts} {H : Heap} {a : Act} (h : Sim E c T H a) {live : Option (List Nat)} {s' : St} (hr : reset live n ⟨T, H⟩ = some s') :
    ∃ c', c'.w = c.w ∧ Step c0 c' ∧ Sim E c' s'.T s'.H a := by
  unfold reset at hr
  split at hr
  · injection hr with hr
    subst hr
    exact ⟨c, rfl, hs, h⟩
  · rename_i l
    split at hr
    case isFalse => cases hr
    rename_i hck
    simp only [Bool.and_eq_true, List.all_eq_true, decide_eq_true_eq] at hck
    injection hr with hr
    subst hr
    obtain ⟨k1, k2⟩ := step_drop h.inv hs h0 (fun i ob hlt ho id hid => by
      rw [h.heap] at ho
      refine hck.2 ob ?_ id hid
      have : (H.take n)[i]? = some ob := by rw [List.getElem?_take, if_pos hlt]; exact ho
      exact List.mem_of_getElem? this)
    refine ⟨c.drop n, rfl, k1, k2, ?_, ?_, h.def_⟩
    · funext i
      show (if i < n then c.H i else none) = (H.take n)[i]?
      rw [List.getElem?_take, h.heap]
    · obtain ⟨q1, q2⟩ := keepOnly_get T l
      refine ⟨by show _ = (keepOnly T l).n; rw [q1]; exact h.tmps.1, fun i hi => ?_, fun i hi => ?_⟩
      · show Rep _ ((keepOnly T l).get i) _
        rcases q2 i with k | ⟨k1, k2⟩
        · rw [k]; simp only [Rep]
        · rw [k2]
          have hi' : i < (keepOnly T l).n := hi
          exact drop_rep (fun id hid => hck.1 i k1 id hid) (h.tmps.2.1 i (by rw [q1] at hi'; exact hi'))
      · show (keepOnly T l).get i = _
        rcases q2 i with k | ⟨k1, k2⟩
        · exact k
        · rw [k2]
          have hi' : (keepOnly T l).n ≤ i := hi
          exact h.tmps.2.2 i (by rw [q1] at hi'; exact hi')

theorem loop_sound {body : St → Option (Ex × St)} {code : Code} (hb : ∀ (s s' : St) (ex : Ex) (c : Ctx) (a : Act), body s = some (ex, s') → Sim E c s.T s.H a → code.wp P (After E c ex s') a c.w) {c0 : Ctx} {n : Nat} (h0 : ∀ i ob, c0.H i = some ob → i < n) (live : Option (List Nat)) :
    (k : Nat) → (s s' : St) → (ex : Ex) → (c : Ctx) → (a : Act) → evLoop body (reset live n) k s = some (ex, s') → Step c0 c → Sim E c s.T s.H a → Code.rounds P code (After E c0 ex s') k a c.w
  | 0, s, s', ex, c, a, h, _, _ => by simp [evLoop] at h
  | k + 1, s, s', ex, c, a, h, hs, hsim => by
    simp only [evLoop] at h
    split at h
    · cases h
    rename_i s1 hr
    obtain ⟨c1, e1, hs1, hsim1⟩ := reset_sim h0 hs (T := s.T) (H := s.H) hsim hr
    rw [rounds_succ, ← e1]
    split at h
    · rename_i s2 hbody
      refine wp_mono (hb s1 s2 .normal c1 a hbody hsim1) fun e a2 w2 hA => ?_
      obtain ⟨c2, rfl, k1, k2, k3, k4, k5, k6⟩ := hA
      simp only [ExRep] at k5
      subst k5
      exact loop_sound hb h0 live k s2 s' ex c2 a2 h (hs1.trans k1) ⟨k2, k3, k6 (fun d e => by cases e), k4⟩
    · rename_i hne
      have hx : ∀ s2, (ex, s') ≠ (Ex.normal, s2) := fun s2 e => hne s2 (h.trans (by rw [e]))
      refine wp_mono (hb s1 s' ex c1 a h hsim1) fun e a2 w2 hA => ?_
      have hA' := hA.trans hs1
      have hxn : ex ≠ .normal := fun e => hx s' (by rw [e])
      obtain ⟨c2, k0, k1, k2, k3, k4, k5, k6⟩ := hA
      cases e with
      | normal =>
        exfalso
        cases ex with
        | normal => exact hxn rfl
        | exit id => simp [ExRep] at k5
        | ret => simp [ExRep] at k5
        | panic d => simp [ExRep] at k5
      | _ => exact hA'

theorem evCode_sound (hE : EnvOK P E) (hcall : CallOK P E call) (hD : DrawnOK P E call) {f fuel : Nat} : (code : Code) → drawnC E f code = true → (s s' : St) → (ex : Ex) → (c : Ctx) → (a : Act) → evCode E call f fuel code s = some (ex, s') → Sim E c s.T s.H a → code.wp P (After E c ex s') a c.w
  | .skip, _, s, s', ex, c, a, h, hs => by
    simp only [evCode, Option.some.injEq, Prod.mk.injEq] at h
    obtain ⟨rfl, rfl⟩ := h
    exact wp_skip (hs.after rfl)
  | .label l, _, s, s', ex, c, a, h, hs => by
    simp only [evCode, Option.some.injEq, Prod.mk.injEq] at h
    obtain ⟨rfl, rfl⟩ := h
    exact wp_label (hs.after rfl)
  | .exit id, _, s, s', ex, c, a, h, hs => by
    simp only [evCode, Option.some.injEq, Prod.mk.injEq] at h
    obtain ⟨rfl, rfl⟩ := h
    exact wp_exit (hs.after rfl)
  | .ret, _, s, s', ex, c, a, h, hs => by
    simp only [evCode, Option.some.injEq, Prod.mk.injEq] at h
    obtain ⟨rfl, rfl⟩ := h
    exact wp_ret (hs.after rfl)
  | .region r ops false, _, s, s', ex, c, a, h, hs => by
    simp only [evCode] at h
    refine wp_region_list ?_
    split at h
    · rename_i T H hops
      simp only [Option.some.injEq, Prod.mk.injEq] at h
      obtain ⟨rfl, rfl⟩ := h
      exact evOps_sound hE hcall _ hs hops fun c' a' k1 k2 => (k2.after (ex := .normal) (e := .normal) rfl).trans k1
    · rename_i d T H hops
      simp only [Option.some.injEq, Prod.mk.injEq] at h
      obtain ⟨rfl, rfl⟩ := h
      exact evOps_sound hE hcall _ hs hops fun c' a' v k1 k2 k3 k4 k5 => ⟨c', rfl, k1, k2, k3, k4, ⟨v, rfl, k5⟩, fun hn => absurd rfl (hn d)⟩
    · cases h
  | .region r ops true, hd, s, s', ex, c, a, h, hs => by
    simp only [evCode] at h
    split at h
    · rename_i T H l hops
      split at h
      case isFalse => cases h
      rename_i hap
      simp only [Option.some.injEq, Prod.mk.injEq] at h
      obtain ⟨rfl, rfl⟩ := h
      exact hD f r ops _ _ _ _ l c a (by simpa [drawnC] using hd) hops hap hs
    · cases h
  | .seq x y, hd, s, s', ex, c, a, h, hs => by
    simp only [evCode] at h
    simp only [drawnC, Bool.and_eq_true] at hd
    refine wp_seq ?_
    split at h
    · rename_i s1 h1
      refine wp_mono (evCode_sound hE hcall hD x hd.1 s s1 .normal c a h1 hs) fun e a2 w2 hA => ?_
      obtain ⟨c2, rfl, k1, k2, k3, k4, k5, k6⟩ := hA
      simp only [ExRep] at k5
      subst k5
      exact wp_mono (evCode_sound hE hcall hD y hd.2 s1 s' ex c2 a2 h ⟨k2, k3, k6 (fun d e => by cases e), k4⟩) fun e a3 w3 hA => hA.trans k1
    · rename_i hne
      refine wp_mono (evCode_sound hE hcall hD x hd.1 s s' ex c a h hs) fun e a2 w2 hA => ?_
      have hxn : ex ≠ .normal := fun e => hne s' (h.trans (by rw [e]))
      have hA' := hA
      obtain ⟨c2, k0, k1, k2, k3, k4, k5, k6⟩ := hA
      cases e with
      | normal =>
        exfalso
        cases ex with
        | normal => exact hxn rfl
        | exit id => simp [ExRep] at k5
        | ret => simp [ExRep] at k5
        | panic d => simp [ExRep] at k5
      | _ => exact hA'
  | .cond cc x y, hd, s, s', ex, c, a, h, hs => by
    simp only [evCode] at h
    simp only [drawnC, Bool.and_eq_true] at hd
    have hr := rep_opd hs.inv hs.tmps cc
    split at h
    · rename_i hb
      rw [hb] at hr
      simp only [Rep] at hr
      exact wp_cond_true hr (evCode_sound hE hcall hD x hd.1 s s' ex c a h hs)
    · rename_i hb
      rw [hb] at hr
      simp only [Rep] at hr
      exact wp_cond_false hr (evCode_sound hE hcall hD y hd.2 s s' ex c a h hs)
    · cases h
  | .block id x, hd, s, s', ex, c, a, h, hs => by
    simp only [evCode] at h
    simp only [drawnC] at hd
    refine wp_block ?_
    split at h
    · rename_i j s1 h1
      refine wp_mono (evCode_sound hE hcall hD x hd s s1 (.exit j) c a h1 hs) fun e a2 w2 hA => ?_
      obtain ⟨c2, k0, k1, k2, k3, k4, k5, k6⟩ := hA
      simp only [ExRep] at k5
      subst k5
      split at h
      · rename_i hj
        simp only [Option.some.injEq, Prod.mk.injEq] at h
        obtain ⟨rfl, rfl⟩ := h
        simp only [Exit.inBlock, hj, if_true]
        exact ⟨c2, k0, k1, k2, k3, k4, rfl, fun _ => k6 (fun d e => by cases e)⟩
      · rename_i hj
        simp only [Option.some.injEq, Prod.mk.injEq] at h
        obtain ⟨rfl, rfl⟩ := h
        simp only [Exit.inBlock, hj, if_false]
        exact ⟨c2, k0, k1, k2, k3, k4, rfl, k6⟩
    · rename_i hne
      refine wp_mono (evCode_sound hE hcall hD x hd s s' ex c a h hs) fun e a2 w2 hA => ?_
      have hxn : ∀ j, ex ≠ .exit j := fun j e => hne j s' (h.trans (by rw [e]))
      have hA' := hA
      obtain ⟨c2, k0, k1, k2, k3, k4, k5, k6⟩ := hA
      cases e with
      | exit id' =>
        exfalso
        cases ex with
        | normal => simp [ExRep] at k5
        | exit id => exact hxn id rfl
        | ret => simp [ExRep] at k5
        | panic d => simp [ExRep] at k5
      | _ => exact hA'
  | .loop x, hd, s, s', ex, c, a, h, hs => by
    simp only [evCode] at h
    simp only [drawnC] at hd
    refine wp_loop_rounds fuel ?_
    exact loop_sound (fun s s' ex c a h hs => evCode_sound hE hcall hD x hd s s' ex c a h hs) (n := s.H.length) (fun i ob ho => by
      rw [hs.heap] at ho
      exact (List.getElem?_eq_some_iff.1 ho).1) _ fuel s s' ex c a h (Step.refl c) hs
  | .goto _, _, s, s', ex, c, a, h, hs => by simp [evCode] at h
  | .scope _, _, s, s', ex, c, a, h, hs => by simp [evCode] at h
  | .rangeFunc .., _, s, s', ex, c, a, h, hs => by simp [evCode] at h
  | .refuse _, _, s, s', ex, c, a, h, hs => by simp [evCode] at h

end
end Go.Cv
