/- A region that draws its order: what is known of the run in the text's order. -/
import Derived.Test.YtlfkhemmgkdjjaaGreatDoorCvFunc
set_option linter.unusedSimpArgs false
set_option linter.unusedVariables false
namespace Go.Cv
open Go.RowKit

section
variable {P : Program} {E : Env} {call : CallF}

/-- One operation of the run in the text's order. -/
def StepD (E : Env) (call : CallF) (f r : Nat) (ops : Array Oper) (i : Nat) (o : Oper) (T : Ts) (H : Heap) (q : Bool × List Nat) (T1 : Ts) (H1 : Heap) : Prop :=
  (wantD ops T o = some false ∧ put T o.dst (.tup []) = some T1 ∧ H1 = H ∧ q = (false, [])) ∨
  (wantD ops T o = some true ∧ q.2 = touch E o (opd E T) H ∧ (∀ x ∈ q.2, x < H.length) ∧ ∃ d, put T o.dst d = some T1 ∧
    ((∃ new, evPure E call f r i o (opd E T) H H.length = some (d, new) ∧ H1 = H ++ new ∧ q.1 = false) ∨
     (evPure E call f r i o (opd E T) H H.length = none ∧ evEff E call f r i o (opd E T) H = some (.val d H1) ∧ q.1 = true)))

theorem trace {f r : Nat} {ops : Array Oper} : (rest : List Oper) → (i : Nat) → (T : Ts) → (H : Heap) → (T' : Ts) → (H' : Heap) → (l : List (Bool × List Nat)) → evDrawn E call f r ops i rest T H = some (T', H', l) →
    ∃ (τ : Nat → Ts) (θ : Nat → Heap), τ 0 = T ∧ θ 0 = H ∧ τ rest.length = T' ∧ θ rest.length = H' ∧ ∀ j o, rest[j]? = some o → ∃ q, l[j]? = some q ∧ StepD E call f r ops (i + j) o (τ j) (θ j) q (τ (j + 1)) (θ (j + 1))
  | [], i, T, H, T', H', l, h => by
    simp only [evDrawn, Option.some.injEq, Prod.mk.injEq] at h
    obtain ⟨rfl, rfl, rfl⟩ := h
    exact ⟨fun _ => T, fun _ => H, rfl, rfl, rfl, rfl, fun j o h => by simp at h⟩
  | o :: rest, i, T, H, T', H', l, h => by
    -- one step, then the rest
    have hone : ∃ T1 H1 q l', StepD E call f r ops i o T H q T1 H1 ∧ evDrawn E call f r ops (i + 1) rest T1 H1 = some (T', H', l') ∧ l = q :: l' := by
      unfold evDrawn at h
      split at h
      · cases h
      · rename_i hw
        split at h
        case h_2 => cases h
        rename_i T1 hT1
        split at h
        case h_2 => cases h
        rename_i T2 H2 l2 hr
        injection h with h
        simp only [Prod.mk.injEq] at h
        obtain ⟨rfl, rfl, rfl⟩ := h
        exact ⟨T1, H, (false, []), l2, .inl ⟨hw, hT1, rfl, rfl⟩, hr, rfl⟩
      · rename_i hw
        simp only at h
        split at h
        · cases h
        rename_i hlt
        have hlt' : ∀ x ∈ touch E o (opd E T) H, x < H.length := fun x hx => by
          simp only [Bool.not_eq_true', Bool.not_eq_false, List.all_eq_true] at hlt
          have := hlt x hx
          simpa [Nat.blt_eq] using this
        split at h
        · rename_i d new hp
          split at h
          case h_2 => cases h
          rename_i T1 hT1
          split at h
          case h_2 => cases h
          rename_i T2 H2 l2 hr
          injection h with h
          simp only [Prod.mk.injEq] at h
          obtain ⟨rfl, rfl, rfl⟩ := h
          exact ⟨T1, H ++ new, (false, touch E o (opd E T) H), l2, .inr ⟨hw, rfl, hlt', d, hT1, .inl ⟨new, hp, rfl, rfl⟩⟩, hr, rfl⟩
        · rename_i hp
          split at h
          case h_2 => cases h
          rename_i d H1 he
          split at h
          case h_2 => cases h
          rename_i T1 hT1
          split at h
          case h_2 => cases h
          rename_i T2 H2 l2 hr
          injection h with h
          simp only [Prod.mk.injEq] at h
          obtain ⟨rfl, rfl, rfl⟩ := h
          exact ⟨T1, H1, (true, touch E o (opd E T) H), l2, .inr ⟨hw, rfl, hlt', d, hT1, .inr ⟨hp, he, rfl⟩⟩, hr, rfl⟩
    obtain ⟨T1, H1, q, l', hs, hr, rfl⟩ := hone
    obtain ⟨τ, θ, h1, h2, h3, h4, h5⟩ := trace rest (i + 1) T1 H1 T' H' l' hr
    refine ⟨fun k => match k with | 0 => T | k + 1 => τ k, fun k => match k with | 0 => H | k + 1 => θ k, rfl, rfl, h3, h4, fun j o' ho => ?_⟩
    cases j with
    | zero =>
      simp at ho
      subst ho
      exact ⟨q, rfl, by simpa [h1, h2] using hs⟩
    | succ j =>
      obtain ⟨q', k1, k2⟩ := h5 j o' (by simpa using ho)
      exact ⟨q', by simpa using k1, by rw [show i + (j + 1) = i + 1 + j by omega]; exact k2⟩

/-! ### What the checks of the text tell -/
theorem hasBit_eq (m i : Nat) : hasBit m i = m.testBit i := by
  unfold hasBit
  rw [Nat.testBit_eq_decide_div_mod_eq, Nat.shiftRight_eq_div_pow]
  by_cases h : m / 2 ^ i % 2 = 1
  · rw [h]; simp
  · rw [beqF h]; simp [h]
theorem hasBit_or {a b i : Nat} (h : hasBit (a ||| b) i = true) : hasBit a i = true ∨ hasBit b i = true := by
  simp only [hasBit_eq, Nat.testBit_or, Bool.or_eq_true] at h ⊢
  exact h
theorem hasBit_one {k i : Nat} (h : hasBit (1 <<< k) i = true) : i = k := by
  rw [hasBit_eq, Nat.testBit_shiftLeft] at h
  simp only [ge_iff_le, Bool.and_eq_true, decide_eq_true_eq] at h
  have h2 : i - k = 0 := by
    have := h.2
    rcases Nat.eq_zero_or_pos (i - k) with g | g
    · exact g
    · rw [Nat.testBit_one_eq_true_iff_self_eq_zero] at this; exact this
  omega
theorem hasBit_zero (i : Nat) : hasBit 0 i = false := by rw [hasBit_eq]; simp

theorem waitsFor_mem (pre : List Nat) (es : List Edge) (acc : Nat) {i : Nat} (h : hasBit (es.foldl (fun acc e => bif Region.binds .any e then (1 <<< e.on) ||| ((pre[e.on]?).getD 0) ||| acc else acc) acc) i = true) :
    hasBit acc i = true ∨ ∃ e ∈ es, Region.binds .any e = true ∧ (i = e.on ∨ hasBit ((pre[e.on]?).getD 0) i = true) := by
  induction es generalizing acc with
  | nil => exact .inl h
  | cons e es ih =>
    simp only [List.foldl_cons] at h
    rcases ih _ h with h | ⟨e', h1, h2⟩
    · cases hb : Region.binds .any e with
      | false => rw [hb] at h; exact .inl h
      | true =>
        rw [hb] at h
        simp only [cond_true] at h
        rcases hasBit_or h with h | h
        · rcases hasBit_or h with h | h
          · exact .inr ⟨e, by simp, hb, .inl (hasBit_one h)⟩
          · exact .inr ⟨e, by simp, hb, .inr h⟩
        · exact .inl h
    · exact .inr ⟨e', by simp [h1], h2⟩

theorem allWaits_pre : (l : List Oper) → (acc : List Nat) → (k : Nat) → k < acc.length → (allWaits l acc)[k]? = acc[k]?
  | [], acc, k, _ => rfl
  | o :: l, acc, k, h => by
    simp only [allWaits]
    rw [allWaits_pre l _ k (by simp; omega), List.getElem?_append_left h]

theorem allWaits_mem : (l : List Oper) → (acc : List Nat) → (j i : Nat) → hasBit (((allWaits l acc)[acc.length + j]?).getD 0) i = true →
    ∃ o, l[j]? = some o ∧ ∃ e ∈ o.after.toList, Region.binds .any e = true ∧ (i = e.on ∨ hasBit (((allWaits l acc)[e.on]?).getD 0) i = true)
  | [], acc, j, i, h => by simp [allWaits, hasBit_zero] at h
  | o :: l, acc, 0, i, h => by
    simp only [allWaits] at h ⊢
    rw [allWaits_pre l _ _ (by simp)] at h
    simp only [Nat.add_zero, List.getElem?_append_right (Nat.le_refl _), Nat.sub_self, List.getElem?_cons_zero, Option.getD_some] at h
    rcases waitsFor_mem acc o.after.toList 0 h with h | ⟨e, h1, h2, h3⟩
    · rw [hasBit_zero] at h; cases h
    · refine ⟨o, rfl, e, h1, h2, ?_⟩
      rcases h3 with h3 | h3
      · exact .inl h3
      · right
        rcases Nat.lt_or_ge e.on acc.length with g | g
        · rw [allWaits_pre l _ _ (by simp; omega), List.getElem?_append_left g]; exact h3
        · rw [List.getElem?_eq_none g] at h3; simp [hasBit_zero] at h3
  | o :: l, acc, j + 1, i, h => by
    simp only [allWaits] at h ⊢
    have := allWaits_mem l (acc ++ [waitsFor acc o]) j i (by rw [List.length_append]; simpa [Nat.add_comm, Nat.add_left_comm] using h)
    simpa using this

theorem rowOK_spec {E : Env} {ops : List Oper} {pre : List Nat} {ps : List (Nat × Nat)} {j : Nat} {y : Oper} : (l : List Oper) → (i : Nat) → rowOK E ops pre ps j y i l = true → ∀ k x, i + k < j → l[k]? = some x → pairOK E ops pre ps (i + k) j x y = true
  | [], i, _, k, x, _, h => by simp at h
  | z :: l, i, h, k, x, hlt, hx => by
    simp only [rowOK] at h
    have hne : Nat.beq i j = false := beqF (by omega)
    rw [hne] at h
    simp only [Bool.false_eq_true, if_false, Bool.and_eq_true] at h
    cases k with
    | zero => simp at hx; subst hx; exact h.1
    | succ k =>
      have := rowOK_spec l (i + 1) h.2 k x (by omega) (by simpa using hx)
      rwa [show i + 1 + k = i + (k + 1) by omega] at this

theorem colOK_spec {E : Env} {ops : List Oper} {pre : List Nat} {ps : List (Nat × Nat)} : (l : List Oper) → (j : Nat) → colOK E ops pre ps j l = true → ∀ k y, l[k]? = some y → rowOK E ops pre ps (j + k) y 0 ops = true ∧ ∀ e ∈ y.after.toList, Region.binds .any e = true → e.on < j + k
  | [], j, _, k, y, h => by simp at h
  | z :: l, j, h, k, y, hy => by
    simp only [colOK, Bool.and_eq_true, List.all_eq_true, Bool.or_eq_true, Bool.not_eq_true', decide_eq_true_eq] at h
    cases k with
    | zero => simp at hy; subst hy; exact ⟨h.1.1, fun e he hb => (h.1.2 e he).resolve_left (by rw [hb]; simp)⟩
    | succ k =>
      have := colOK_spec l (j + 1) h.2 k y (by simpa using hy)
      rwa [show j + 1 + k = j + (k + 1) by omega] at this

/-- All that is known of a region in the text's order. -/
structure Plan (E : Env) (call : CallF) (f r : Nat) (ops : Array Oper) (τ : Nat → Ts) (θ : Nat → Heap) (l : List (Bool × List Nat)) (pre : Nat → List Nat) (ps : List (Nat × Nat)) : Prop where
  step : ∀ (j : Nat) (o : Oper), ops[j]? = some o → ∃ q, l[j]? = some q ∧ StepD E call f r ops j o (τ j) (θ j) q (τ (j + 1)) (θ (j + 1))
  back : ∀ (j : Nat) (y : Oper), ops[j]? = some y → ∀ e ∈ y.after.toList, Region.binds .any e = true → e.on < j
  waits : ∀ (j i : Nat), i ∈ pre j → ∃ y : Oper, ops[j]? = some y ∧ ∃ e ∈ y.after.toList, Region.binds .any e = true ∧ (i = e.on ∨ i ∈ pre e.on)
  pair : ∀ (i j : Nat) (x y : Oper), i < j → ops[i]? = some x → ops[j]? = some y → i ∈ pre j ∨ (slotsApart ops.toList x y = true ∧ (inert E x = true ∨ inert E y = true ∨ (quiet x = true ∧ quiet y = true) ∨ (i, j) ∈ ps))
  apart : ∀ p ∈ ps, Cv.apart l p = true

theorem plan_of {f r : Nat} {ops : Array Oper} {T T' : Ts} {H H' : Heap} {l : List (Bool × List Nat)} (hd : drawnOK E ops.toList (E.pairs f r) = true) (h : evDrawn E call f r ops 0 ops.toList T H = some (T', H', l)) (ha : (E.pairs f r).all (apart l) = true) :
    ∃ τ θ pre, τ 0 = T ∧ θ 0 = H ∧ τ ops.size = T' ∧ θ ops.size = H' ∧ Plan E call f r ops τ θ l pre (E.pairs f r) := by
  obtain ⟨τ, θ, h1, h2, h3, h4, h5⟩ := trace ops.toList 0 T H T' H' l h
  refine ⟨τ, θ, fun j => (List.range ops.size).filter fun i => hasBit (((allWaits ops.toList [])[j]?).getD 0) i, h1, h2, by simpa using h3, by simpa using h4, ?_⟩
  have hc := colOK_spec ops.toList 0 hd
  refine ⟨fun j o ho => ?_, fun j y hy e he hb => ?_, fun j i hi => ?_, fun i j x y hij hx hy => ?_, fun p hp => List.all_eq_true.1 ha p hp⟩
  · have := h5 j o (by simpa using ho)
    simpa using this
  · have := (hc j y (by simpa using hy)).2 e he hb
    omega
  · simp only [List.mem_filter, List.mem_range] at hi ⊢
    obtain ⟨y, h1, e, h2, h3, h4⟩ := allWaits_mem ops.toList [] j i (by simpa using hi.2)
    exact ⟨y, by simpa using h1, e, h2, h3, h4.imp id fun h => ⟨hi.1, h⟩⟩
  · have hr := (hc j y (by simpa using hy)).1
    rw [Nat.zero_add] at hr
    have := rowOK_spec ops.toList 0 hr i x (by omega) (by simpa using hx)
    rw [Nat.zero_add] at this
    simp only [pairOK, Bool.or_eq_true, Bool.and_eq_true, List.contains_eq_mem, decide_eq_true_eq] at this
    rcases this with h | ⟨h, ((h' | h') | h') | h'⟩
    · have hlt := (Array.getElem?_eq_some_iff.1 hx).1
      exact .inl (by simp only [List.mem_filter, List.mem_range]; exact ⟨hlt, h⟩)
    · exact .inr ⟨h, .inl h'⟩
    · exact .inr ⟨h, .inr (.inl h')⟩
    · exact .inr ⟨h, .inr (.inr (.inl h'))⟩
    · exact .inr ⟨h, .inr (.inr (.inr h'))⟩

/-! ### An operation that writes changes what it touches, nothing else -/
theorem putBack_frame {Hs : Heap} {l : List Nat} {obs new : List Ob} {H : Heap} {lent : List Nat} (hH : Hs = shareAll H lent) : H.length ≤ (putBack Hs l obs ++ new).length ∧ ∀ id, id ∉ lent → id ∉ l → id < H.length → (putBack Hs l obs ++ new)[id]? = H[id]? := by
  have hlen : (putBack Hs l obs).length = H.length := by rw [putBack_length, hH, shareAll_length]
  refine ⟨by rw [List.length_append, hlen]; omega, fun id h1 h2 h3 => ?_⟩
  rw [List.getElem?_append_left (by rw [hlen]; exact h3), putBack_other _ _ _ _ h2, hH, shareAll_get, if_neg h1]

theorem callFull_frame {plain byref : Bool} {g : FuncId} {args : List D} {H H1 : Heap} {d : D} (h : callFull call plain byref g args H = some (.ret d, H1)) : H.length ≤ H1.length ∧ ∀ id, id ∉ callTouch byref args H → id < H.length → H1[id]? = H[id]? := by
  unfold callFull at h
  split at h
  · cases h
  rename_i args' hargs
  simp only at h
  obtain ⟨lent, hlent⟩ : ∃ lent, lent = (if byref = true then [] else args.flatMap arrs.arr1) := ⟨_, rfl⟩
  rw [← hlent] at h
  obtain ⟨l, hl⟩ : ∃ l, l = reach H 1000 (idsL args') [] := ⟨_, rfl⟩
  rw [← hl] at h
  have hT1 : ∀ i ∈ l, i ∈ callTouch byref args H := fun i hm => by
    unfold callTouch
    rw [List.mem_append]
    left
    rw [hl] at hm
    cases byref
    · simp only [Bool.false_eq_true, if_false] at hargs ⊢
      rw [hargs]; exact hm
    · simp only [if_true, Option.some.injEq] at hargs ⊢
      rw [hargs]; exact hm
  have hT2 : ∀ i ∈ lent, i ∈ callTouch byref args H := fun i hm => by
    unfold callTouch
    rw [List.mem_append]
    right
    rw [hlent] at hm
    split at hm
    · simp at hm
    · rw [← arrsL_flatMap] at hm; exact arrsL_ids hm
  have key : ∀ obs new, H1 = putBack (shareAll H lent) l obs ++ new → H.length ≤ H1.length ∧ ∀ id, id ∉ callTouch byref args H → id < H.length → H1[id]? = H[id]? := fun obs new e => by
    obtain ⟨k1, k2⟩ := putBack_frame (l := l) (obs := obs) (new := new) (H := H) (lent := lent) rfl
    rw [e]
    exact ⟨k1, fun id hid hlt => k2 id (fun hm => hid (hT2 id hm)) (fun hm => hid (hT1 id hm)) hlt⟩
  split at h
  · cases h
  split at h
  · cases h
  split at h
  · cases h
  split at h
  · cases h
  split at h
  · cases h
  split at h
  · split at h
    · injection h with h; simp only [Prod.mk.injEq] at h; cases h.1
    · cases h
  · split at h
    · cases h
    split at h
    · injection h with h
      simp only [Prod.mk.injEq] at h
      exact key _ [] (by rw [List.append_nil]; exact h.2.symm)
    · split at h
      · injection h with h
        simp only [Prod.mk.injEq] at h
        exact key _ _ h.2.symm
      · cases h

theorem evEff_frame {f r i : Nat} {o : Oper} {ρ : Operand → D} {H H1 : Heap} {d : D} (h : evEff E call f r i o ρ H = some (.val d H1)) : H.length ≤ H1.length ∧ ∀ id, id ∉ touch E o ρ H → id < H.length → H1[id]? = H[id]? := by
  unfold evEff at h
  split at h
  · rename_i t x y ho
    simp only [Option.map_eq_some_iff, OpR.val.injEq] at h
    obtain ⟨H', h1, rfl, rfl⟩ := h
    unfold storeD at h1
    split at h1
    case h_2 => cases h1
    rename_i ti id n k off hti hx
    have hid : id ∈ touch E o ρ H := touch_mem (x := x) (by simp [ho, Op.operands]) (by rw [hx]; simp [ids])
    split at h1
    case h_2 => cases h1
    split at h1
    case isFalse => cases h1
    split at h1
    case h_2 => cases h1
    split at h1
    case isFalse => cases h1
    injection h1 with h1
    subst h1
    refine ⟨by simp, fun q hq hlt => ?_⟩
    have : id ≠ q := fun e => hq (e ▸ hid)
    simp [List.getElem?_set, this]
  · split at h
    · split at h
      · cases h
      · cases h
    · cases h
  · rename_i cl ho
    split at h
    · rename_i hcl
      split at h
      case h_2 => cases h
      rename_i t tx s x hts hargs
      simp only [Option.map_eq_some_iff, OpR.val.injEq] at h
      obtain ⟨⟨d', H'⟩, h1, rfl, rfl⟩ := h
      have ha : cl.args = #[s, x] := by rw [← Array.toList_inj]; exact hargs
      have hs : ∀ id, id ∈ ids (ρ s) → id ∈ touch E o ρ H := fun id hid => touch_mem (x := s) (by simp [ho, Op.operands, Call.operands, ha]) hid
      unfold appendD at h1
      split at h1
      case h_2 => cases h1
      split at h1
      case h_2 => cases h1
      split at h1
      case h_1 => cases h1
      split at h1
      · cases h1
      split at h1
      · split at h1
        · injection h1 with h1
          simp only [Prod.mk.injEq] at h1
          obtain ⟨_, rfl⟩ := h1
          exact ⟨Nat.le_refl _, fun _ _ _ => rfl⟩
        · split at h1
          · injection h1 with h1
            simp only [Prod.mk.injEq] at h1
            obtain ⟨_, rfl⟩ := h1
            exact ⟨by simp, fun q _ hlt => List.getElem?_append_left hlt⟩
          · cases h1
      · rename_i id n hsid
        split at h1
        · split at h1
          · injection h1 with h1
            simp only [Prod.mk.injEq] at h1
            obtain ⟨_, rfl⟩ := h1
            refine ⟨by simp, fun q hq hlt => ?_⟩
            have : id ≠ q := fun e => hq (e ▸ hs id (by rw [hsid]; simp [ids]))
            simp [List.getElem?_set, this]
          · cases h1
        · cases h1
      · cases h1
    · rename_i gx hcl
      split at h
      case h_2 => cases h
      rename_i g first captured hg
      have hT : touch E o ρ H = callTouch (E.byref g) (first ++ cl.args.toList.map ρ ++ captured) H := by
        unfold touch callTouch
        rw [ho]
        simp only [hcl, hg]
      rw [hT]
      split at h
      · rename_i d' H' hf
        simp only [Option.some.injEq, OpR.val.injEq] at h
        obtain ⟨rfl, rfl⟩ := h
        exact callFull_frame hf
      · cases h
      · cases h
    · cases h
  · cases h

end
end Go.Cv
