/- A function, calls of any depth. -/
import Derived.Test.YtlfkhemmgkdjjaaGreatDoorCvRun
import Derived.Laws.Sem
set_option linter.unusedSimpArgs false
set_option linter.unusedVariables false
namespace Go.Cv
open Go.RowKit

section
variable {P : Program} {E : Env} {c : Ctx} {call : CallF}

/-- One result. -/
def resSem (tmps : Array Value) : ResultVar → Sem Value
  | .tmp t => pure (tmps.getD t undef)
  | .cell a t => do loadVar t (← asAddr (tmps.getD a undef))

theorem results_eq (fn : Func) (tmps : Array Value) : results fn tmps = (do
    let vs ← fn.results.mapM (resSem tmps)
    pure (if h : vs.size = 1 then vs[0] else .tuple vs)) := by
  unfold results
  congr 1

theorem rep_get {T : Ts} {tmps : Array Value} (h : TRep c T tmps) (t : Nat) : Rep c (T.get t) (tmps.getD t undef) := by
  rcases Nat.lt_or_ge t T.n with g | g
  · exact h.2.1 t g
  · rw [h.2.2 t g]; simp only [Rep]

theorem res_run (hE : EnvOK P E) {T : Ts} {H : Heap} {a : Act} (hs : Sim E c T H a) {r : ResultVar} {d : D} (h : resultD E H T r = some d) : ∃ v, (resSem a.tmps r).run P c.w = .ok v c.w ∧ Rep c d v := by
  cases r with
  | tmp t =>
    simp only [resultD, Option.some.injEq] at h
    subst h
    exact ⟨_, by simp [resSem], rep_get hs.tmps t⟩
  | cell ad t =>
    simp only [resultD] at h
    have hr := rep_get hs.tmps ad
    obtain ⟨v, h1, h2⟩ := load_gives hs.inv hE (fun id _ ob ho => by rw [hs.heap]; exact ho) h hr
    refine ⟨v, ?_, h2⟩
    have key : ∀ va : Value, (Instr.loadAt t va).run P c.w = .ok v c.w → (do loadVar t (← asAddr va) : Sem Value).run P c.w = .ok v c.w := fun va h1 => by
      simp only [Instr.loadAt, Sem.run_bind] at h1
      simp only [Sem.run_bind]
      cases va with
      | pointer q => cases q with
        | some q => simpa [Instr.sureAddr, asAddr] using h1
        | none => simp [Instr.sureAddr] at h1
      | _ => simp [Instr.sureAddr] at h1
    exact key _ h1

theorem resL_run (hE : EnvOK P E) {T : Ts} {H : Heap} {a : Act} (hs : Sim E c T H a) : (l : List ResultVar) → (ds : List D) → resultsL E H T l = some ds → ∃ vs, (l.mapM (resSem a.tmps)).run P c.w = .ok vs c.w ∧ RepL c ds vs
  | [], ds, h => by
    simp only [resultsL, Option.some.injEq] at h
    subst h
    exact ⟨[], by simp, by simp [RepL]⟩
  | r :: l, ds, h => by
    simp only [resultsL] at h
    split at h
    case h_2 => cases h
    rename_i d ds' h1 h2
    injection h with h
    subst h
    obtain ⟨v, k1, k2⟩ := res_run hE hs h1
    obtain ⟨vs, m1, m2⟩ := resL_run hE hs l ds' h2
    refine ⟨v :: vs, ?_, by simp only [RepL]; exact ⟨v, vs, rfl, k2, m2⟩⟩
    simp only [List.mapM_cons, Sem.run_bind, k1, Result.andThen_ok, m1, Sem.run_pure]

theorem results_sound (hE : EnvOK P E) {T : Ts} {H : Heap} {a : Act} (hs : Sim E c T H a) {fn : Func} {d : D} (h : resultsD E fn T H = some d) : ∃ v, (results fn a.tmps).run P c.w = .ok v c.w ∧ Rep c d v := by
  unfold resultsD at h
  split at h
  · rename_i d' hl
    injection h with h
    subst h
    obtain ⟨vs, k1, k2⟩ := resL_run hE hs _ _ hl
    simp only [RepL] at k2
    obtain ⟨u, us, rfl, k3, rfl⟩ := k2
    refine ⟨u, ?_, k3⟩
    rw [results_eq]
    simp [Array.mapM_eq_mapM_toList, k1]
  · rename_i ds hne hl
    injection h with h
    subst h
    obtain ⟨vs, k1, k2⟩ := resL_run hE hs _ _ hl
    have hlen := k2.length
    refine ⟨.tuple vs.toArray, ?_, by simp only [Rep]; exact ⟨_, rfl, by simpa using k2⟩⟩
    have h1 : ¬ vs.length = 1 := fun e => by
      rw [e] at hlen
      cases ds with
      | nil => simp at hlen
      | cons d ds => cases ds with
        | nil => exact hne d rfl
        | cons d2 ds => simp at hlen
    rw [results_eq]
    simp [Array.mapM_eq_mapM_toList, k1, h1]
  · cases h

/-- The functions told by a rule of their own. -/
def OrcOK (P : Program) (E : Env) : Prop :=
  ∀ (f : FuncId) (o : List D → Heap → Option (Out × Heap)), E.orc f = some o → ∀ (c : Ctx) (H : Heap) (args : List D) (vs : Array Value) (out : Out) (H' : Heap), Inv E c → c.H = (fun i => H[i]?) → RepL c args vs.toList → o args H = some (out, H') →
    CallX P f vs c.w fun e w' => ∃ c', c'.w = w' ∧ Step c c' ∧ Inv E c' ∧ c'.H = (fun i => H'[i]?) ∧ OutRep c' out e

theorem pcall_sound (hE : EnvOK P E) (hO : OrcOK P E) (hD : ∀ k, CallOK P E (pcall E k) → DrawnOK P E (pcall E k)) : (k : Nat) → CallOK P E (pcall E k)
  | 0 => fun c H g args vs o H' _ _ _ h => by simp [pcall] at h
  | k + 1 => fun c H g args vs o H' hi hH hv h => by
    have ih := pcall_sound hE hO hD k
    simp only [pcall] at h
    split at h
    · rename_i r horc
      injection h with h
      subst h
      split at horc
      case h_2 => cases horc
      rename_i orc hor
      exact hO g orc hor c H args vs o H' hi hH hv horc
    · split at h
      · cases h
      rename_i fn hfn
      obtain ⟨hf1, hf2⟩ := hE.code g fn hfn
      split at h
      · cases h
      rename_i code hbody
      cases hle : Nat.ble args.length fn.ntmps with
      | false => rw [hle] at h; simp at h
      | true =>
        rw [hle] at h
        simp only [if_true] at h
        have hle' : args.length ≤ fn.ntmps := Nat.le_of_ble_eq_true hle
        refine .inl ⟨⟨fn, hf1, hf2, by rw [hbody]; rfl⟩, ?_⟩
        refine calls_of_wp hf1 hbody ?_
        have hsim : Sim E c (Ts.of fn.ntmps args) H { tmps := vs ++ Array.replicate (fn.ntmps - vs.size) undef, defers := [] } := ⟨hi, hH, Ts.of_rep hv hle', rfl⟩
        have hdr := hE.drawn g fn code hfn hbody
        have key : ∀ (ex : Ex) (s : St), evCode E (pcall E k) g k code ⟨Ts.of fn.ntmps args, H⟩ = some (ex, s) →
            code.wp P (After E c ex s) { tmps := vs ++ Array.replicate (fn.ntmps - vs.size) undef, defers := [] } c.w := fun ex s hev =>
          evCode_sound hE ih (hD k ih) code hdr _ s ex c _ hev hsim
        split at h
        · rename_i s hev
          simp only [Option.map_eq_some_iff, Prod.mk.injEq] at h
          obtain ⟨d, hres, rfl, rfl⟩ := h
          refine wp_mono (key _ _ hev) fun e a w hA => ?_
          obtain ⟨c', rfl, k1, k2, k3, k4, k5, k6⟩ := hA
          simp only [ExRep] at k5
          subst k5
          obtain ⟨v, r1, r2⟩ := results_sound hE (T := s.T) (H := s.H) (a := a) ⟨k2, k3, k6 (fun d e => by cases e), k4⟩ hres
          exact ⟨k4, v, r1, c', rfl, k1, k2, k3, v, rfl, r2⟩
        · rename_i s hev
          simp only [Option.map_eq_some_iff, Prod.mk.injEq] at h
          obtain ⟨d, hres, rfl, rfl⟩ := h
          refine wp_mono (key _ _ hev) fun e a w hA => ?_
          obtain ⟨c', rfl, k1, k2, k3, k4, k5, k6⟩ := hA
          simp only [ExRep] at k5
          subst k5
          obtain ⟨v, r1, r2⟩ := results_sound hE (T := s.T) (H := s.H) (a := a) ⟨k2, k3, k6 (fun d e => by cases e), k4⟩ hres
          exact ⟨k4, v, r1, c', rfl, k1, k2, k3, v, rfl, r2⟩
        · rename_i d s hev
          simp only [Option.some.injEq, Prod.mk.injEq] at h
          obtain ⟨rfl, rfl⟩ := h
          refine wp_mono (key _ _ hev) fun e a w hA => ?_
          obtain ⟨c', rfl, k1, k2, k3, k4, k5, k6⟩ := hA
          simp only [ExRep] at k5
          obtain ⟨v, rfl, r2⟩ := k5
          exact ⟨k4, c', rfl, k1, k2, k3, v, rfl, r2⟩
        · cases h

end
end Go.Cv
