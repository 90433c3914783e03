/- A region that draws its order: whichever order is drawn, it comes to what the text's order comes to. -/
import Derived.Test.YtlfkhemmgkdjjaaGreatDoorCvTrace
set_option linter.unusedSimpArgs false
set_option linter.unusedVariables false
namespace Go.Cv
open Go.RowKit

section
variable {P : Program} {E : Env} {call : CallF} {f r : Nat} {ops : Array Oper} {τ : Nat → Ts} {θ : Nat → Heap} {l : List (Bool × List Nat)} {pre : Nat → List Nat} {ps : List (Nat × Nat)}

def DstAt (ops : Array Oper) (k t : Nat) : Prop := ∃ o : Oper, ops[k]? = some o ∧ o.dst = some t
def WrE (l : List (Bool × List Nat)) (k id : Nat) : Prop := ∃ w : List Nat, l[k]? = some (true, w) ∧ id ∈ w
def Mk (θ : Nat → Heap) (k id : Nat) : Prop := (θ k).length ≤ id ∧ id < (θ (k + 1)).length

theorem put_get {T T1 : Ts} {dst : Option Tmp} {d : D} (h : put T dst d = some T1) : T1.n = T.n ∧ (∀ t, dst ≠ some t → T1.get t = T.get t) ∧ (∀ t, dst = some t → T1.get t = d ∨ T1.get t = .top) ∧ ((∀ t, T.n ≤ t → T.get t = .top) → ∀ t, T1.n ≤ t → T1.get t = .top) := by
  cases dst with
  | none =>
    simp only [put, Option.some.injEq] at h
    subst h
    exact ⟨rfl, fun _ _ => rfl, fun t e => (by cases e), fun h => h⟩
  | some i =>
    simp only [put] at h
    obtain ⟨h1, h2⟩ := Ts.set_n h
    refine ⟨h1, fun t ht => Ts.get_set_ne h (fun e => ht (by rw [e])), fun t ht => by injection ht with ht; subst ht; exact Ts.get_set_eq h, fun htop t ht => ?_⟩
    rw [Ts.get_set_ne h (by omega)]
    exact htop t (by omega)

theorem StepD.put {i : Nat} {o : Oper} {T T1 : Ts} {H H1 : Heap} {q : Bool × List Nat} (h : StepD E call f r ops i o T H q T1 H1) : ∃ d, Cv.put T o.dst d = some T1 := by
  rcases h with ⟨_, h, _⟩ | ⟨_, _, _, d, h, _⟩
  · exact ⟨_, h⟩
  · exact ⟨_, h⟩

theorem StepD.heap {i : Nat} {o : Oper} {T T1 : Ts} {H H1 : Heap} {q : Bool × List Nat} (h : StepD E call f r ops i o T H q T1 H1) : H.length ≤ H1.length ∧ ∀ id, ¬ (q.1 = true ∧ id ∈ q.2) → id < H.length → H1[id]? = H[id]? := by
  rcases h with ⟨_, _, rfl, _⟩ | ⟨_, h2, _, d, _, ⟨new, _, rfl, _⟩ | ⟨_, he, hq⟩⟩
  · exact ⟨Nat.le_refl _, fun _ _ _ => rfl⟩
  · exact ⟨by simp, fun id _ hlt => List.getElem?_append_left hlt⟩
  · obtain ⟨k1, k2⟩ := evEff_frame he
    exact ⟨k1, fun id hid hlt => k2 id (fun hm => hid ⟨hq, by rw [h2]; exact hm⟩) hlt⟩

variable (hp : Plan E call f r ops τ θ l pre ps)
include hp

theorem Plan.at {k : Nat} (hk : k < ops.size) : ∃ o q, ops[k]? = some o ∧ l[k]? = some q ∧ StepD E call f r ops k o (τ k) (θ k) q (τ (k + 1)) (θ (k + 1)) := by
  have ho : ops[k]? = some ops[k] := Array.getElem?_eq_getElem hk
  obtain ⟨q, h1, h2⟩ := hp.step k _ ho
  exact ⟨_, q, ho, h1, h2⟩

theorem len_mono : (d k : Nat) → k + d ≤ ops.size → (θ k).length ≤ (θ (k + d)).length
  | 0, k, _ => Nat.le_refl _
  | d + 1, k, h => by
    have h1 := len_mono d k (by omega)
    obtain ⟨o, q, _, _, hs⟩ := hp.at (show k + d < ops.size by omega)
    exact Nat.le_trans h1 hs.heap.1

theorem len_le {k j : Nat} (h : k ≤ j) (hj : j ≤ ops.size) : (θ k).length ≤ (θ j).length := by
  have := len_mono hp (j - k) k (by omega)
  rwa [show k + (j - k) = j by omega] at this

theorem n_same : (k : Nat) → k ≤ ops.size → (τ k).n = (τ 0).n
  | 0, _ => rfl
  | k + 1, h => by
    obtain ⟨o, q, _, _, hs⟩ := hp.at (show k < ops.size by omega)
    obtain ⟨d, hd⟩ := hs.put
    rw [(put_get hd).1]
    exact n_same k (by omega)

theorem top_get (h0 : ∀ t, (τ 0).n ≤ t → (τ 0).get t = .top) : (k : Nat) → k ≤ ops.size → ∀ t, (τ 0).n ≤ t → (τ k).get t = .top
  | 0, _, t, ht => h0 t ht
  | k + 1, h, t, ht => by
    obtain ⟨o, q, _, _, hs⟩ := hp.at (show k < ops.size by omega)
    obtain ⟨d, hd⟩ := hs.put
    obtain ⟨h1, _, _, h4⟩ := put_get hd
    have hn := n_same hp k (by omega)
    refine h4 (fun t' ht' => top_get h0 k (by omega) t' (by omega)) t (by rw [h1, hn]; exact ht)

theorem slot_same : (d k t : Nat) → k + d ≤ ops.size → (∀ k', k ≤ k' → k' < k + d → ¬ DstAt ops k' t) → (τ (k + d)).get t = (τ k).get t
  | 0, k, t, _, _ => rfl
  | d + 1, k, t, h, hn => by
    have h1 := slot_same d k t (by omega) (fun k' a b => hn k' a (by omega))
    obtain ⟨o, q, ho, _, hs⟩ := hp.at (show k + d < ops.size by omega)
    obtain ⟨v, hv⟩ := hs.put
    rw [← h1]
    exact (put_get hv).2.1 t fun e => hn (k + d) (by omega) (by omega) ⟨o, ho, e⟩

theorem slot_eq {k j t : Nat} (h : k ≤ j) (hj : j ≤ ops.size) (hn : ∀ k', k ≤ k' → k' < j → ¬ DstAt ops k' t) : (τ j).get t = (τ k).get t := by
  have := slot_same hp (j - k) k t (by omega) (fun k' a b => hn k' a (by omega))
  rwa [show k + (j - k) = j by omega] at this

theorem obj_same : (d k id : Nat) → k + d ≤ ops.size → (∀ k', k ≤ k' → k' < k + d → ¬ WrE l k' id) → id < (θ k).length → (θ (k + d))[id]? = (θ k)[id]?
  | 0, k, id, _, _, _ => rfl
  | d + 1, k, id, h, hn, hlt => by
    have h1 := obj_same d k id (by omega) (fun k' a b => hn k' a (by omega)) hlt
    obtain ⟨o, q, ho, hq, hs⟩ := hp.at (show k + d < ops.size by omega)
    rw [← h1]
    refine hs.heap.2 id (fun e => hn (k + d) (by omega) (by omega) ?_) (Nat.lt_of_lt_of_le hlt (len_mono hp d k (by omega)))
    obtain ⟨e1, e2⟩ := e
    exact ⟨q.2, by rw [hq]; cases q; simp at e1; subst e1; rfl, e2⟩

theorem obj_eq {k j id : Nat} (h : k ≤ j) (hj : j ≤ ops.size) (hn : ∀ k', k ≤ k' → k' < j → ¬ WrE l k' id) (hlt : id < (θ k).length) : (θ j)[id]? = (θ k)[id]? := by
  have := obj_same hp (j - k) k id (by omega) (fun k' a b => hn k' a (by omega)) hlt
  rwa [show k + (j - k) = j by omega] at this

/-- Made by one operation alone. -/
theorem mk_one {k j id : Nat} (hk : k < ops.size) (hj : j < ops.size) (h1 : Mk θ k id) (h2 : Mk θ j id) : k = j := by
  rcases Nat.lt_trichotomy k j with g | g | g
  · have := len_le hp (show k + 1 ≤ j by omega) (by omega)
    have := h1.2; have := h2.1; omega
  · exact g
  · have := len_le hp (show j + 1 ≤ k by omega) (by omega)
    have := h2.2; have := h1.1; omega

end
end Go.Cv
/- A region that draws its order: what is known where an operation comes up. -/
set_option linter.unusedSimpArgs false
set_option linter.unusedVariables false
namespace Go.Cv
open Go.RowKit

theorem slotsApart_spec {l : List Oper} {x y : Oper} (h : slotsApart l x y = true) : (∀ t, x.dst = some t → t ∉ looks l y ∧ y.dst ≠ some t) ∧ ∀ t, y.dst = some t → t ∉ looks l x := by
  unfold slotsApart at h
  simp only [Bool.and_eq_true] at h
  refine ⟨fun t ht => ?_, fun t ht => ?_⟩
  · have h1 := h.1
    rw [ht] at h1
    simp only [Bool.and_eq_true, Bool.not_eq_true', List.contains_eq_mem, decide_eq_false_iff_not] at h1
    refine ⟨h1.1, fun e => ?_⟩
    have h2 := h1.2
    unfold dstIs at h2
    rw [e] at h2
    simp at h2
  · have h1 := h.2
    rw [ht] at h1
    simpa using h1

mutual
theorem Rep.ids {c : Ctx} : (d : D) → (v : Value) → Rep c d v → ∀ id ∈ Cv.ids d, c.H id ≠ none
  | .bool _, _, _ | .int _ _, _, _ | .str _, _, _ | .nilp, _, _ | .eptr .., _, _ | .slc _, _, _ | .emp, _, _ | .nilfn, _, _ | .niface, _, _ | .top, _, _ => by simp [Cv.ids]
  | .ptr id _ _ _, v, h => by
    simp only [Rep] at h
    obtain ⟨_, ob, h1, _⟩ := h
    intro i hi
    simp [Cv.ids] at hi
    subst hi
    rw [h1]; simp
  | .arr id _, v, h => by
    simp only [Rep] at h
    obtain ⟨_, ob, h1, _⟩ := h
    intro i hi
    simp [Cv.ids] at hi
    subst hi
    rw [h1]; simp
  | .asl id _ _ _, v, h => by
    simp only [Rep] at h
    obtain ⟨_, ob, h1, _⟩ := h
    intro i hi
    simp [Cv.ids] at hi
    subst hi
    rw [h1]; simp
  | .fn f a b, v, h => by
    simp only [Rep] at h
    obtain ⟨va, vb, _, h1, h2⟩ := h
    intro i hi
    simp only [Cv.ids, List.mem_append] at hi
    rcases hi with hi | hi
    · exact RepL.ids a _ h1 i hi
    · exact RepL.ids b _ h2 i hi
  | .iface t d, v, h => by
    simp only [Rep] at h
    obtain ⟨u, _, h1⟩ := h
    intro i hi
    exact Rep.ids d u h1 i (by simpa [Cv.ids] using hi)
  | .agg cs, v, h => by
    simp only [Rep] at h
    obtain ⟨vs, _, h1⟩ := h
    intro i hi
    exact RepL.ids cs _ h1 i (by simpa [Cv.ids] using hi)
  | .tup ds, v, h => by
    simp only [Rep] at h
    obtain ⟨vs, _, h1⟩ := h
    intro i hi
    exact RepL.ids ds _ h1 i (by simpa [Cv.ids] using hi)
theorem RepL.ids {c : Ctx} : (ds : List D) → (vs : List Value) → RepL c ds vs → ∀ id ∈ idsL ds, c.H id ≠ none
  | [], _, _ => by simp [idsL]
  | d :: ds, vs, h => by
    simp only [RepL] at h
    obtain ⟨u, us, _, h1, h2⟩ := h
    intro i hi
    simp only [idsL, List.mem_append] at hi
    rcases hi with hi | hi
    · exact Rep.ids d u h1 i hi
    · exact RepL.ids ds us h2 i hi
end

theorem reach_acc {H : Heap} : (k : Nat) → (todo acc : List Nat) → ∀ id ∈ acc, id ∈ reach H k todo acc
  | 0, _, _, _, h => h
  | _ + 1, [], _, _, h => h
  | k + 1, i :: todo, acc, id, h => by
    simp only [reach]
    split
    · exact reach_acc k todo acc id h
    · split
      · exact reach_acc k _ _ id (by simp [h])
      · exact reach_acc k todo acc id h

theorem reach_all {H : Heap} {p : Nat → Prop} : (k : Nat) → (todo acc : List Nat) → (∀ id ∈ todo, p id) → (∀ id ∈ acc, p id) → (∀ id ∈ reach H k todo acc, p id → ∀ ob, H[id]? = some ob → ∀ i ∈ obIds ob, p i) → ∀ id ∈ reach H k todo acc, p id
  | 0, todo, acc, _, h2, _ => h2
  | _ + 1, [], acc, _, h2, _ => h2
  | k + 1, i :: todo, acc, h1, h2, h3 => by
    simp only [reach] at h3 ⊢
    split
    · rename_i hc
      rw [if_pos hc] at h3
      exact reach_all k todo acc (fun id hid => h1 id (by simp [hid])) h2 h3
    · rename_i hc
      rw [if_neg hc] at h3
      split
      · rename_i ob hob
        rw [hob] at h3
        simp only at h3
        have hpi := h1 i (by simp)
        refine reach_all k _ _ (fun id hid => ?_) (fun id hid => ?_) h3
        · rcases List.mem_append.1 hid with hid | hid
          · exact h3 i (reach_acc k _ _ i (by simp)) hpi ob hob id hid
          · exact h1 id (by simp [hid])
        · rcases List.mem_append.1 hid with hid | hid
          · exact h2 id hid
          · simp at hid; subst hid; exact hpi
      · rename_i hob
        rw [hob] at h3
        exact reach_all k todo acc (fun id hid => h1 id (by simp [hid])) h2 h3

theorem viewL_ids {H : Heap} : {l l' : List D} → viewL H l = some l' → ∀ id ∈ idsL l', id ∈ idsL l
  | [], l', h => by simp only [viewL, Option.some.injEq] at h; subst h; simp
  | d :: l, l', h => by
    simp only [viewL] at h
    split at h
    · rename_i x xs h1 h2
      injection h with h
      subst h
      intro id hid
      simp only [idsL, List.mem_append] at hid ⊢
      rcases hid with hid | hid
      · left
        unfold view1 at h1
        split at h1
        · injection h1 with h1; subst h1; simp [ids] at hid
        · split at h1
          · split at h1
            · injection h1 with h1; subst h1; simp [ids] at hid
            · cases h1
          · cases h1
        · split at h1
          · split at h1
            · injection h1 with h1; subst h1; simp [ids] at hid
            · cases h1
          · cases h1
        · injection h1 with h1; subst h1; exact hid
      · exact .inr (viewL_ids h2 id hid)
    · cases h

section
variable {P : Program} {E : Env} {call : CallF}

theorem touch_all {o : Oper} {ρ : Operand → D} {H : Heap} {p : Nat → Prop} (hx : ∀ x ∈ o.op.operands.toList, ∀ id ∈ ids (ρ x), p id)
    (hs : ∀ id ∈ touch E o ρ H, (∃ cl, o.op = .call cl) → p id → ∀ ob, H[id]? = some ob → ∀ i ∈ obIds ob, p i) : ∀ id ∈ touch E o ρ H, p id := by
  have hdef : ∀ id ∈ idsL (o.op.operands.toList.map ρ), p id := fun id hid => by
    obtain ⟨d, h1, h2⟩ := idsL_mem hid
    obtain ⟨x, h3, rfl⟩ := List.mem_map.1 h1
    exact hx x h3 id h2
  have hs' := hs
  clear hs
  unfold touch at hs' ⊢
  split
  · rename_i cl ho
    split
    · rename_i gx hcl
      split
      · rename_i g first captured hg
        have hargs : ∀ id ∈ idsL (first ++ cl.args.toList.map ρ ++ captured), p id := fun id hid => by
          rw [idsL_append, idsL_append, List.mem_append, List.mem_append] at hid
          rcases hid with (hid | hid) | hid
          · exact hx gx (by simp [ho, Op.operands, Call.operands, hcl]) id (by rw [hg]; simp [ids, hid])
          · obtain ⟨x, h1, h2⟩ := idsL_mem hid
            obtain ⟨y, hy, rfl⟩ := List.mem_map.1 h1
            exact hx y (by simp [ho, Op.operands, Call.operands]; exact .inr (by simpa using hy)) id h2
          · exact hx gx (by simp [ho, Op.operands, Call.operands, hcl]) id (by rw [hg]; simp [ids, hid])
        rw [ho] at hs'
        simp only [hcl, hg] at hs'
        intro id hid
        simp only [List.mem_append] at hid
        rcases hid with hid | hid
        · refine reach_all 1000 _ [] (fun i hi => ?_) (by simp) (fun i hi hpi ob hob j hj => hs' i (List.mem_append_left _ hi) ⟨cl, rfl⟩ hpi ob hob j hj) id hid
          split at hi
          · exact hargs i hi
          · cases hv : viewL H (first ++ cl.args.toList.map ρ ++ captured) with
            | none => rw [hv] at hi; simp [idsL] at hi
            | some l' => rw [hv] at hi; exact hargs i (viewL_ids hv i hi)
        · exact hargs id hid
      · exact hdef
    · exact hdef
  · exact hdef

/-- An inert operation does not look at the heap. -/
theorem inert_pure {o : Oper} (h : inert E o = true) {f r i n : Nat} {ρ : Operand → D} {H : Heap} (h2 : ∀ t a, o.op ≠ .load t a) : evPure E call f r i o ρ H n = evPure E call f r i o ρ [] n := by
  unfold inert at h
  unfold evPure
  split at h <;> rename_i ho <;> first
    | (simp only [ho]; done)
    | (rw [ho])
    | cases h

theorem inert_eff {o : Oper} (h : inert E o = true) {f r i : Nat} {ρ : Operand → D} {H : Heap} : evEff E call f r i o ρ H = none := by
  unfold inert at h
  unfold evEff
  split at h <;> rename_i ho <;> first
    | (simp only [ho]; done)
    | (rw [ho])
    | cases h

theorem quiet_eff {o : Oper} (h : quiet o = true) {f r i : Nat} {ρ : Operand → D} {H : Heap} : evEff E call f r i o ρ H = none := by
  unfold quiet at h
  unfold evEff
  split at h <;> rename_i ho
  · cases h
  · cases h
  · split at h <;> rename_i hc <;> first
      | (rw [hc]; done)
      | (simp only [hc]; done)
      | cases h
  · rename_i h1 h2 h3
    cases hop : o.op <;> first
      | rfl
      | (exfalso; first | exact h1 _ _ _ hop | exact h2 _ hop | exact h3 _ hop)

end
end Go.Cv
/- A region that draws its order: the invariant, and what it gives an operation that comes up. -/
set_option linter.unusedSimpArgs false
set_option linter.unusedVariables false
set_option linter.unusedSectionVars false
namespace Go.Cv
open Go.RowKit

section
variable {P : Program} {E : Env} {call : CallF} {f r : Nat} {ops : Array Oper} {τ : Nat → Ts} {θ : Nat → Heap} {l : List (Bool × List Nat)} {pre : Nat → List Nat} {ps : List (Nat × Nat)}

/-- The operations of S have come up. -/
structure RInv (E : Env) (ops : Array Oper) (τ : Nat → Ts) (θ : Nat → Heap) (l : List (Bool × List Nat)) (pre : Nat → List Nat) (S : Nat → Prop) (c : Ctx) (a : Act) : Prop where
  sub : ∀ k, S k → k < ops.size
  closed : ∀ k i, S k → i ∈ pre k → S i
  inv : Inv E c
  def_ : a.defers = []
  size : a.tmps.size = (τ 0).n
  slot : ∀ t, t < (τ 0).n → ∃ k, k ≤ ops.size ∧ (∀ k', k ≤ k' → S k' → ¬ DstAt ops k' t) ∧ (k = 0 ∨ ∃ k0, k = k0 + 1 ∧ S k0 ∧ DstAt ops k0 t) ∧ Rep c ((τ k).get t) (a.tmps.getD t undef)
  obj : ∀ id ob, c.H id = some ob → ∃ k, k ≤ ops.size ∧ (∀ k', k ≤ k' → S k' → ¬ WrE l k' id) ∧ (k = 0 ∨ ∃ k0, k = k0 + 1 ∧ S k0 ∧ (WrE l k0 id ∨ Mk θ k0 id)) ∧ (θ k)[id]? = some ob
  have_ : ∀ id, (id < (θ 0).length ∨ ∃ k, S k ∧ Mk θ k id) → c.H id ≠ none
  only : ∀ id, c.H id ≠ none → id < (θ 0).length ∨ ∃ k, S k ∧ Mk θ k id
  live : ∀ k id, S k → WrE l k id → c.H id ≠ none

variable (hp : Plan E call f r ops τ θ l pre ps) (htop : ∀ t, (τ 0).n ≤ t → (τ 0).get t = .top) {S : Nat → Prop} {c : Ctx} {a : Act} (hI : RInv E ops τ θ l pre S c a)
  {j : Nat} {o : Oper} (ho : ops[j]? = some o) (hS : ¬ S j) (hpre : ∀ i ∈ pre j, S i)
include hp hI ho hS hpre

theorem later_not {k : Nat} {y : Oper} (hy : ops[k]? = some y) (hk : S k) (hjk : j ≤ k) : j < k ∧ slotsApart ops.toList o y = true ∧ (inert E o = true ∨ inert E y = true ∨ (quiet o = true ∧ quiet y = true) ∨ (j, k) ∈ ps) := by
  have hlt : j < k := by
    rcases Nat.lt_or_eq_of_le hjk with g | g
    · exact g
    · exact absurd (g ▸ hk) hS
  refine ⟨hlt, ?_⟩
  rcases hp.pair j k o y hlt ho hy with h | h
  · exact absurd (hI.closed k j hk h) hS
  · exact h

theorem before_not {k : Nat} {x : Oper} (hx : ops[k]? = some x) (hk : ¬ S k) (hkj : k < j) : slotsApart ops.toList x o = true ∧ (inert E x = true ∨ inert E o = true ∨ (quiet x = true ∧ quiet o = true) ∨ (k, j) ∈ ps) := by
  rcases hp.pair k j x o hkj hx ho with h | h
  · exact absurd (hpre k h) hk
  · exact h

include htop in
theorem look_rep {t : Nat} (ht : t ∈ looks ops.toList o) : Rep c ((τ j).get t) (a.tmps.getD t undef) := by
  have hj : j < ops.size := (Array.getElem?_eq_some_iff.1 ho).1
  rcases Nat.lt_or_ge t (τ 0).n with g | g
  · obtain ⟨k, hk, h1, h2, h3⟩ := hI.slot t g
    have hkj : k ≤ j := by
      rcases Nat.lt_or_ge j k with q | q
      · exfalso
        rcases h2 with rfl | ⟨k0, rfl, hk0, y, hy, hyt⟩
        · omega
        · have := later_not hp hI ho hS hpre hy hk0 (by omega)
          exact (slotsApart_spec this.2.1).2 t hyt ht
      · exact q
    have he := slot_eq hp hkj (by omega) (t := t) (fun k' a1 a2 hd => by
      obtain ⟨x, hx, hxt⟩ := hd
      have hn : ¬ S k' := fun hs => h1 k' a1 hs ⟨x, hx, hxt⟩
      exact ((slotsApart_spec (before_not hp hI ho hS hpre hx hn a2).1).1 t hxt).1 ht)
    rw [he]
    exact h3
  · rw [top_get hp htop j (by omega) t g]
    simp only [Rep]

include htop in
theorem opd_rep {x : Operand} (hx : x ∈ o.op.operands.toList) : Rep c (opd E (τ j) x) (a.eval x) := by
  cases x with
  | tmp t =>
    refine look_rep hp htop hI ho hS hpre ?_
    unfold looks
    rw [List.mem_append]
    left
    exact List.mem_filterMap.2 ⟨.tmp t, hx, rfl⟩
  | const v => exact rep_ofVal c v
  | global g =>
    simp only [opd]
    cases hg : E.glob g with
    | none => simp only [Rep]
    | some cells => simp only [Rep]; exact ⟨g, 0, rfl, hI.inv.glob g cells hg⟩
  | func f => simp only [opd, Rep]; exact ⟨#[], #[], rfl, by simp [RepL], by simp [RepL]⟩

include htop in
theorem want_on {b : Bool} (h : wantD ops (τ j) o = some b) : Region.wanted o (yielded ops a.tmps) = b := by
  have hj : j < ops.size := (Array.getElem?_eq_some_iff.1 ho).1
  unfold wantD at h
  unfold Region.wanted
  cases hg : o.guard with
  | none => rw [hg] at h; simpa using h
  | some p =>
    obtain ⟨q, want⟩ := p
    rw [hg] at h
    simp only at h ⊢
    unfold yielded
    cases hd : (ops[q]?).bind (·.dst) with
    | none => rw [hd] at h; simp only [Option.some.injEq] at h; subst h; rfl
    | some t =>
      rw [hd] at h
      simp only [Option.bind_some] at h ⊢
      have hr : Rep c ((τ j).get t) (a.tmps.getD t undef) := look_rep hp htop hI ho hS hpre (by
        unfold looks
        rw [List.mem_append, hg]
        right
        simpa using hd)
      have hlt : (τ j).get t ≠ .top → t < a.tmps.size := fun hne => by
        rw [hI.size]
        rcases Nat.lt_or_ge t (τ 0).n with g | g
        · exact g
        · exact absurd (top_get hp htop j (by omega) t g) hne
      split at h
      · rename_i b0 hb
        have hs := hlt (by rw [hb]; intro e; cases e)
        rw [hb] at hr
        simp only [Rep] at hr
        have hx : a.tmps[t]? = some (.bool b0) := by
          rw [Array.getElem?_eq_getElem hs]
          simpa [Array.getD, hs] using hr
        rw [hx]
        simp only [Option.some.injEq] at h
        subst h
        cases b0 <;> cases want <;> rfl
      · rename_i ds hb
        have hs := hlt (by rw [hb]; intro e; cases e)
        rw [hb] at hr
        simp only [Rep] at hr
        obtain ⟨vs, hr, _⟩ := hr
        have hx : a.tmps[t]? = some (.tuple vs) := by
          rw [Array.getElem?_eq_getElem hs]
          simpa [Array.getD, hs] using hr
        rw [hx]
        simp only [Option.some.injEq] at h
        subst h
        rfl
      · cases h

omit hI ho hS hpre in
/-- What writes is not inert. -/
theorem wr_eff {k id : Nat} (h : WrE l k id) : ∃ x, ops[k]? = some x ∧ inert E x = false ∧ quiet x = false ∧ id < (θ k).length ∨ ops.size ≤ k := by
  obtain ⟨w, h1, h2⟩ := h
  rcases Nat.lt_or_ge k ops.size with g | g
  · obtain ⟨x, q, hx, hq, hs⟩ := hp.at g
    refine ⟨x, .inl ⟨hx, ?_, ?_, ?_⟩⟩
    · rw [h1] at hq
      injection hq with hq
      subst hq
      rcases hs with ⟨_, _, _, e⟩ | ⟨_, _, _, d, _, ⟨new, _, _, e⟩ | ⟨_, he, _⟩⟩
      · cases e
      · cases e
      · cases hi : inert E x
        · rfl
        · rw [inert_eff hi] at he; cases he
    · rw [h1] at hq
      injection hq with hq
      subst hq
      rcases hs with ⟨_, _, _, e⟩ | ⟨_, _, _, d, _, ⟨new, _, _, e⟩ | ⟨_, he, _⟩⟩
      · cases e
      · cases e
      · cases hi : quiet x
        · rfl
        · rw [quiet_eff hi] at he; cases he
    · rw [h1] at hq
      injection hq with hq
      subst hq
      rcases hs with ⟨_, _, _, e⟩ | ⟨_, _, hlt, _⟩
      · cases e
      · exact hlt id h2
  · exact ⟨default, .inr g⟩

/-- Where an object's content is from, if the operation touches it. -/
theorem touch_from (hni : inert E o = false) {w : List Nat} {e : Bool} (hl : l[j]? = some (e, w)) (hlt : ∀ x ∈ w, x < (θ j).length) {id : Nat} (hid : id ∈ w) {ob : Ob} (hob : c.H id = some ob) :
    (∀ k', j ≤ k' → S k' → ¬ WrE l k' id) ∧ (θ j)[id]? = some ob := by
  have hj : j < ops.size := (Array.getElem?_eq_some_iff.1 ho).1
  have hlate : ∀ k', j ≤ k' → S k' → ¬ WrE l k' id := fun k' h1 h2 hw => by
    obtain ⟨y, hy | hy⟩ := wr_eff hp hw
    · obtain ⟨q1, q2, q3⟩ := later_not hp hI ho hS hpre hy.1 h2 h1
      rcases q3 with q3 | q3 | q3 | q3
      · rw [hni] at q3; cases q3
      · rw [hy.2.1] at q3; cases q3
      · rw [hy.2.2.1] at q3; cases q3.2
      · have ha := hp.apart _ q3
        obtain ⟨w', hw1, hw2⟩ := hw
        unfold apart at ha
        simp only [hl, hw1, Bool.or_true, Bool.not_true, Bool.false_or, List.all_eq_true, Bool.not_eq_true', List.contains_eq_mem, decide_eq_false_iff_not] at ha
        exact ha id hid hw2
    · have := hI.sub k' h2; omega
  refine ⟨hlate, ?_⟩
  obtain ⟨k, hk, h1, h2, h3⟩ := hI.obj id ob hob
  have hkj : k ≤ j := by
    rcases Nat.lt_or_ge j k with q | q
    · exfalso
      rcases h2 with rfl | ⟨k0, rfl, hk0, hw⟩
      · omega
      · rcases hw with hw | hw
        · exact hlate k0 (by omega) hk0 hw
        · have h4 := hlt id hid
          have h5 := len_le hp (show j ≤ k0 by omega) (by have := hI.sub k0 hk0; omega)
          have := hw.1
          omega
    · exact q
  rw [obj_eq hp hkj (by omega) (fun k' a1 a2 hw => ?_) (List.getElem?_eq_some_iff.1 h3).1]
  · exact h3
  · have hn : ¬ S k' := fun hs => h1 k' a1 hs hw
    obtain ⟨x, hx | hx⟩ := wr_eff hp hw
    · obtain ⟨_, q3⟩ := before_not hp hI ho hS hpre hx.1 hn a2
      rcases q3 with q3 | q3 | q3 | q3
      · rw [hx.2.1] at q3; cases q3
      · rw [hni] at q3; cases q3
      · rw [hx.2.2.1] at q3; cases q3.1
      · have ha := hp.apart _ q3
        obtain ⟨w', hw1, hw2⟩ := hw
        unfold apart at ha
        simp only [hl, hw1, Bool.true_or, Bool.not_true, Bool.false_or, List.all_eq_true, Bool.not_eq_true', List.contains_eq_mem, decide_eq_false_iff_not] at ha
        exact ha id hw2 hid
    · omega

include htop in
/-- What an operation touches is there. -/
theorem touch_there {w : List Nat} {e : Bool} (hl : l[j]? = some (e, w)) (hw : w = touch E o (opd E (τ j)) (θ j)) (hlt : ∀ x ∈ w, x < (θ j).length) : ∀ id ∈ w, c.H id ≠ none := by
  rw [hw]
  refine touch_all (fun x hx id hid => Rep.ids _ _ (opd_rep hp htop hI ho hS hpre hx) id hid) fun id hid hcl hne ob hob i hi => ?_
  obtain ⟨cl, hcl⟩ := hcl
  have hni : inert E o = false := by unfold inert; rw [hcl]
  obtain ⟨ob', hob'⟩ := Option.ne_none_iff_exists'.1 hne
  have := (touch_from hp hI ho hS hpre hni hl hlt (by rw [hw]; exact hid) hob').2
  rw [hob] at this
  injection this with this
  subst this
  have hO := hI.inv.ob id ob hob'
  unfold obIds at hi
  obtain ⟨x, hx, hix⟩ := List.mem_flatMap.1 hi
  obtain ⟨k, hk⟩ := List.mem_iff_getElem?.1 hx
  obtain ⟨d, hd, hid'⟩ := idsL_mem hix
  obtain ⟨q, hq⟩ := List.mem_iff_getElem?.1 hd
  obtain ⟨_, u, _, hr⟩ := (hO.row k x hk).2 q d hq
  exact Rep.ids d u hr i hid'

end
end Go.Cv
/- A region that draws its order: one operation comes up. -/
set_option linter.unusedSimpArgs false
set_option linter.unusedVariables false
set_option linter.unusedSectionVars false
namespace Go.Cv
open Go.RowKit

section
variable {P : Program} {E : Env} {call : CallF} {f r : Nat} {ops : Array Oper} {τ : Nat → Ts} {θ : Nat → Heap} {l : List (Bool × List Nat)} {pre : Nat → List Nat} {ps : List (Nat × Nat)}
variable (hp : Plan E call f r ops τ θ l pre ps) (htop : ∀ t, (τ 0).n ≤ t → (τ 0).get t = .top) {S : Nat → Prop} {c : Ctx} {a : Act} (hI : RInv E ops τ θ l pre S c a)
  {j : Nat} {o : Oper} (ho : ops[j]? = some o) (hS : ¬ S j) (hpre : ∀ i ∈ pre j, S i)
include hp hI ho hS hpre

/-- What an operation makes is not there before it. -/
theorem new_none {id : Nat} (h : Mk θ j id) : c.H id = none := by
  cases hc : c.H id with
  | none => rfl
  | some ob =>
    exfalso
    have hj : j < ops.size := (Array.getElem?_eq_some_iff.1 ho).1
    rcases hI.only id (by rw [hc]; simp) with g | ⟨k, hk, hm⟩
    · have := len_le hp (Nat.zero_le j) (by omega)
      have := h.1
      omega
    · exact hS (mk_one hp (hI.sub k hk) hj hm h ▸ hk)

theorem RInv.next {c' : Ctx} (hstep : Step c c') (hinv : Inv E c') {d : D} {v : Value} (hput : put (τ j) o.dst d = some (τ (j + 1))) (hr : Rep c' d v)
    (hheap : ∀ id ob, c'.H id = some ob → (Mk θ j id ∧ (θ (j + 1))[id]? = some ob) ∨ (WrE l j id ∧ (θ (j + 1))[id]? = some ob) ∨ (c.H id = some ob ∧ ¬ Mk θ j id ∧ ¬ WrE l j id))
    (hmk : ∀ id, Mk θ j id → c'.H id ≠ none) (hlv : ∀ id, WrE l j id → c.H id ≠ none) (hlast : ∀ id, WrE l j id → ∀ k', j ≤ k' → S k' → ¬ WrE l k' id) :
    RInv E ops τ θ l pre (fun k => S k ∨ k = j) c' (a.put o.dst v) := by
  have hj : j < ops.size := (Array.getElem?_eq_some_iff.1 ho).1
  have hkeep : ∀ id, c.H id ≠ none → c'.H id ≠ none := fun id h => by
    obtain ⟨ob, hob⟩ := Option.ne_none_iff_exists'.1 h
    obtain ⟨ob', h1, _⟩ := hstep.le.obs id ob hob
    rw [h1]; simp
  refine ⟨?_, ?_, hinv, ?_, ?_, ?_, ?_, ?_, ?_, ?_⟩
  · rintro k (h | rfl)
    · exact hI.sub k h
    · exact hj
  · rintro k i (h | rfl) hi
    · exact .inl (hI.closed k i h hi)
    · exact .inl (hpre i hi)
  · rw [put_defers]; exact hI.def_
  · cases hd : o.dst with
    | none => exact hI.size
    | some t => simp [Act.put, hI.size]
  · intro t ht
    by_cases hd : o.dst = some t
    · refine ⟨j + 1, by omega, fun k' h1 h2 hw => ?_, .inr ⟨j, rfl, .inr rfl, o, ho, hd⟩, ?_⟩
      · rcases h2 with h2 | h2
        · obtain ⟨y, hy, hyt⟩ := hw
          have := later_not hp hI ho hS hpre hy h2 (by omega)
          exact ((slotsApart_spec this.2.1).1 t hd).2 hyt
        · omega
      · have hv : (a.put o.dst v).tmps.getD t undef = v := by
          rw [hd]
          have hs : t < a.tmps.size := by rw [hI.size]; exact ht
          simp [Act.put, Array.getD, hs]
        rw [hv]
        rcases (put_get hput).2.2.1 t hd with e | e
        · rw [e]; exact hr
        · rw [e]; simp only [Rep]
    · obtain ⟨k, hk, h1, h2, h3⟩ := hI.slot t ht
      refine ⟨k, hk, fun k' a1 a2 hw => ?_, ?_, ?_⟩
      · rcases a2 with a2 | rfl
        · exact h1 k' a1 a2 hw
        · obtain ⟨y, hy, hyt⟩ := hw
          rw [ho] at hy; injection hy with hy; subst hy
          exact hd hyt
      · rcases h2 with h2 | ⟨k0, e1, e2, e3⟩
        · exact .inl h2
        · exact .inr ⟨k0, e1, .inl e2, e3⟩
      · have hv : (a.put o.dst v).tmps.getD t undef = a.tmps.getD t undef := by
          cases hd' : o.dst with
          | none => rfl
          | some t' =>
            have hne : t' ≠ t := fun e => hd (by rw [hd', e])
            have hs : t < a.tmps.size := by rw [hI.size]; exact ht
            simp [Act.put, Array.getD, hs, hne]
        rw [hv]
        exact h3.mono hstep.le
  · intro id ob hob
    rcases hheap id ob hob with ⟨h1, h2⟩ | ⟨h1, h2⟩ | ⟨h1, h2, h3⟩
    · refine ⟨j + 1, by omega, fun k' a1 a2 hw => ?_, .inr ⟨j, rfl, .inr rfl, .inr h1⟩, h2⟩
      rcases a2 with a2 | rfl
      · exact hI.live k' id a2 hw (new_none hp hI ho hS hpre h1)
      · omega
    · refine ⟨j + 1, by omega, fun k' a1 a2 hw => ?_, .inr ⟨j, rfl, .inr rfl, .inl h1⟩, h2⟩
      rcases a2 with a2 | rfl
      · exact hlast id h1 k' (by omega) a2 hw
      · omega
    · obtain ⟨k, hk, q1, q2, q3⟩ := hI.obj id ob h1
      refine ⟨k, hk, fun k' a1 a2 hw => ?_, ?_, q3⟩
      · rcases a2 with a2 | rfl
        · exact q1 k' a1 a2 hw
        · exact h3 hw
      · rcases q2 with q2 | ⟨k0, e1, e2, e3⟩
        · exact .inl q2
        · exact .inr ⟨k0, e1, .inl e2, e3⟩
  · rintro id (h | ⟨k, h | rfl, hm⟩)
    · exact hkeep id (hI.have_ id (.inl h))
    · exact hkeep id (hI.have_ id (.inr ⟨k, h, hm⟩))
    · exact hmk id hm
  · intro id h
    obtain ⟨ob, hob⟩ := Option.ne_none_iff_exists'.1 h
    have hold : c.H id ≠ none → id < (θ 0).length ∨ ∃ k, (S k ∨ k = j) ∧ Mk θ k id := fun h => by
      rcases hI.only id h with g | ⟨k, hk, hm⟩
      · exact .inl g
      · exact .inr ⟨k, .inl hk, hm⟩
    rcases hheap id ob hob with ⟨h1, h2⟩ | ⟨h1, h2⟩ | ⟨h1, h2, h3⟩
    · exact .inr ⟨j, .inr rfl, h1⟩
    · exact hold (hlv id h1)
    · exact hold (by rw [h1]; simp)
  · rintro k id (h | rfl) hw
    · exact hkeep id (hI.live k id h hw)
    · exact hkeep id (hlv id hw)

include htop in
theorem op_comes (hE : EnvOK P E) (hcall : CallOK P E call) {Q : Exit → Act → World → Prop} {K : Act → World → Prop}
    (hK : ∀ c' a', Step c c' → RInv E ops τ θ l pre (fun k => S k ∨ k = j) c' a' → K a' c'.w) : wpOp P ops Q j K a c.w := by
  have hj : j < ops.size := (Array.getElem?_eq_some_iff.1 ho).1
  obtain ⟨q, hq, hs⟩ := hp.step j o ho
  unfold wpOp
  rw [ho]
  simp only
  rcases hs with ⟨hw, hput, hh, hqq⟩ | ⟨hw, hw2, hlt, d, hput, hcase⟩
  · -- not wanted
    rw [want_on hp htop hI ho hS hpre hw, if_neg (by simp)]
    subst hqq
    have hnw : ∀ id, ¬ WrE l j id := fun id hx => by
      obtain ⟨w, h1, _⟩ := hx
      rw [hq] at h1; cases h1
    have hnm : ∀ id, ¬ Mk θ j id := fun id hx => by
      have h1 := hx.1; have h2 := hx.2
      rw [hh] at h2; omega
    exact hK c _ (Step.refl c) (RInv.next hp hI ho hS hpre (Step.refl c) hI.inv hput rep_undef (fun id ob h => .inr (.inr ⟨h, hnm id, hnw id⟩)) (fun id h => absurd h (hnm id)) (fun id h => absurd h (hnw id)) (fun id h => absurd h (hnw id)))
  · rw [want_on hp htop hI ho hS hpre hw, if_pos rfl]
    left
    have hrep : ∀ x ∈ o.op.operands.toList, Rep c (opd E (τ j) x) (a.eval x) := fun x hx => opd_rep hp htop hI ho hS hpre hx
    rcases hcase with ⟨new, hpure, hh, hq1⟩ | ⟨hpure, heff, hq1⟩
    · -- pure
      have hnw : ∀ id, ¬ WrE l j id := fun id hx => by
        obtain ⟨w, h1, _⟩ := hx
        rw [hq] at h1; injection h1 with h1; rw [h1] at hq1; cases hq1
      have hmk : ∀ id, Mk θ j id ↔ (θ j).length ≤ id ∧ id < (θ j).length + new.length := fun id => by
        unfold Mk; rw [hh, List.length_append]
      have hnone : ∀ i, i < new.length → c.H ((θ j).length + i) = none := fun i hi => new_none hp hI ho hS hpre ((hmk _).2 ⟨by omega, by omega⟩)
      have hgo : OpBrings P E c o a d (θ j).length new := by
        cases hin : inert E o with
        | true =>
          rw [inert_pure hin (by intro t x e; unfold inert at hin; rw [e] at hin; cases hin)] at hpure
          exact pure_sound hI.inv hE (pure_call hcall) (H := []) ⟨hrep, fun x _ id _ ob h => by simp at h⟩ hnone hpure
        | false =>
          have hready : Ready E c o (opd E (τ j)) a (θ j) := ⟨hrep, fun id hid ob hob => by
            have hid' : id ∈ q.2 := by rw [hw2]; exact hid
            have hne := touch_there hp htop hI ho hS hpre (e := q.1) (w := q.2) hq hw2 hlt id hid'
            obtain ⟨ob', hob'⟩ := Option.ne_none_iff_exists'.1 hne
            have := (touch_from hp hI ho hS hpre hin (e := q.1) (w := q.2) hq hlt hid' hob').2
            rw [hob] at this; injection this with this; subst this; exact hob'⟩
          exact pure_sound hI.inv hE (pure_call hcall) hready.here hnone hpure
      refine hgo K Q fun v c' k1 k2 k3 k4 => hK c' _ k1 (RInv.next hp hI ho hS hpre k1 k2 hput k3 (fun id ob h => ?_) (fun id h => ?_) (fun id h => absurd h (hnw id)) (fun id h => absurd h (hnw id)))
      · rw [k4 id] at h
        split at h
        · rename_i hr
          left
          refine ⟨(hmk id).2 hr, ?_⟩
          rw [hh, List.getElem?_append_right hr.1]
          exact h
        · rename_i hr
          exact .inr (.inr ⟨h, fun hm => hr ((hmk id).1 hm), hnw id⟩)
      · rw [k4 id, if_pos ((hmk id).1 h)]
        have h1 := (hmk id).1 h
        rw [List.getElem?_eq_getElem (by omega)]
        simp
    · -- a write
      have hin : inert E o = false := by
        cases hi : inert E o
        · rfl
        · rw [inert_eff hi] at heff; cases heff
      have hwr : ∀ id, WrE l j id ↔ id ∈ q.2 := fun id => by
        constructor
        · rintro ⟨w, h1, h2⟩
          rw [hq] at h1; injection h1 with h1; subst h1; exact h2
        · intro h
          exact ⟨q.2, by rw [hq]; cases q; simp at hq1; subst hq1; rfl, h⟩
      have hthere := touch_there hp htop hI ho hS hpre (e := q.1) (w := q.2) hq hw2 hlt
      have hfrom : ∀ id ∈ q.2, ∀ ob, c.H id = some ob → (∀ k', j ≤ k' → S k' → ¬ WrE l k' id) ∧ (θ j)[id]? = some ob := fun id hid ob hob =>
        touch_from hp hI ho hS hpre hin (e := q.1) (w := q.2) hq hlt hid hob
      have hready : Ready E c o (opd E (τ j)) a (θ j) := ⟨hrep, fun id hid ob hob => by
        have hid' : id ∈ q.2 := by rw [hw2]; exact hid
        obtain ⟨ob', hob'⟩ := Option.ne_none_iff_exists'.1 (hthere id hid')
        have := (hfrom id hid' ob' hob').2
        rw [hob] at this; injection this with this; subst this; exact hob'⟩
      have hgo := eff_sound hI.inv hE hcall hready (res := .val d (θ (j + 1))) (fun i h1 h2 => new_none hp hI ho hS hpre ⟨h1, h2⟩) heff
      refine hgo K Q fun v c' W k1 k2 k3 k4 k5 => hK c' _ k1 (RInv.next hp hI ho hS hpre k1 k2 hput k3 (fun id ob h => ?_) (fun id h => ?_) (fun id h => hthere id ((hwr id).1 h)) (fun id h => ?_))
      · by_cases hm : Mk θ j id
        · left
          exact ⟨hm, by rw [← k5.new id hm.1 hm.2]; exact h⟩
        · by_cases hwm : id ∈ q.2
          · right; left
            refine ⟨(hwr id).2 hwm, ?_⟩
            have hidl := hlt id hwm
            obtain ⟨ob0, hob0⟩ := Option.ne_none_iff_exists'.1 (hthere id hwm)
            have h0 := (hfrom id hwm ob0 hob0).2
            rw [← k5.at hidl (by rw [hob0, h0])]
            exact h
          · right; right
            have hnW : id ∉ W := fun hx => hwm (by rw [hw2]; exact k4 id hx)
            refine ⟨?_, hm, fun hx => hwm ((hwr id).1 hx)⟩
            rw [← k5.same id hnW hm]
            exact h
      · rw [k5.new id h.1 h.2, List.getElem?_eq_getElem h.2]
        simp
      · obtain ⟨ob0, hob0⟩ := Option.ne_none_iff_exists'.1 (hthere id ((hwr id).1 h))
        exact (hfrom id ((hwr id).1 h) ob0 hob0).1

end
end Go.Cv
/- A region that draws its order, whole; calls of any depth. -/
set_option linter.unusedSimpArgs false
set_option linter.unusedVariables false
set_option linter.unusedSectionVars false
namespace Go.Cv
open Go.RowKit

theorem filter_le {p q : Nat → Bool} : (l : List Nat) → (∀ x, q x = true → p x = true) → (l.filter q).length ≤ (l.filter p).length
  | [], _ => Nat.le_refl _
  | x :: l, h => by
    have ih := filter_le l h
    by_cases hq : q x = true
    · rw [List.filter_cons_of_pos hq, List.filter_cons_of_pos (h x hq)]
      simp only [List.length_cons]; omega
    · rw [List.filter_cons_of_neg hq]
      by_cases hp : p x = true
      · rw [List.filter_cons_of_pos hp]; simp only [List.length_cons]; omega
      · rw [List.filter_cons_of_neg hp]; exact ih

theorem filter_lt {p q : Nat → Bool} {j : Nat} : (l : List Nat) → (∀ x, q x = true → p x = true) → j ∈ l → p j = true → q j = false → (l.filter q).length < (l.filter p).length
  | [], _, h, _, _ => by simp at h
  | x :: l, h, hj, h1, h2 => by
    have hle := filter_le l h
    by_cases e : x = j
    · subst e
      rw [List.filter_cons_of_neg (by simp [h2]), List.filter_cons_of_pos h1]
      simp only [List.length_cons]; omega
    · have ih := filter_lt l h ((List.mem_cons.1 hj).resolve_left (fun q => e q.symm)) h1 h2
      by_cases hq : q x = true
      · rw [List.filter_cons_of_pos hq, List.filter_cons_of_pos (h x hq)]
        simp only [List.length_cons]; omega
      · rw [List.filter_cons_of_neg hq]
        by_cases hp : p x = true
        · rw [List.filter_cons_of_pos hp]; simp only [List.length_cons]; omega
        · rw [List.filter_cons_of_neg hp]; exact ih

section
variable {P : Program} {E : Env} {call : CallF} {f r : Nat} {ops : Array Oper} {τ : Nat → Ts} {θ : Nat → Heap} {l : List (Bool × List Nat)} {pre : Nat → List Nat} {ps : List (Nat × Nat)}

def Listed (ops : Array Oper) (listed : Array Bool) (k : Nat) : Prop := k < ops.size ∧ listed.getD k true = true
def left (ops : Array Oper) (listed : Array Bool) : Nat := ((List.range ops.size).filter fun k => !listed.getD k true).length

theorem getD_eq {listed : Array Bool} (hs : listed.size = ops.size) {k : Nat} (hk : k < ops.size) : listed.getD k true = listed.getD k false := by
  have : k < listed.size := by omega
  simp [Array.getD, this]

theorem ready_nil (hp : Plan E call f r ops τ θ l pre ps) {listed : Array Bool} (hs : listed.size = ops.size) (h : Region.ready .any ops listed = []) : ∀ k, k < ops.size → Listed ops listed k := by
  intro k
  induction k using Nat.strongRecOn with
  | _ k ih =>
    intro hk
    refine ⟨hk, ?_⟩
    cases hl : listed.getD k true with
    | true => rfl
    | false =>
      exfalso
      have : k ∈ Region.ready .any ops listed := mem_ready.2 ⟨hl, ops[k], Array.getElem?_eq_getElem hk, fun e he hb => by
        have hlt := hp.back k _ (Array.getElem?_eq_getElem hk) e (by simpa using he) hb
        have := (ih e.on hlt (by omega)).2
        rw [← getD_eq hs (by omega)]; exact this⟩
      rw [h] at this
      simp at this

theorem any_sound (hE : EnvOK P E) (hcall : CallOK P E call) (hp : Plan E call f r ops τ θ l pre ps) (htop : ∀ t, (τ 0).n ≤ t → (τ 0).get t = .top) {Q : Exit → Act → World → Prop} {c0 : Ctx}
    (hQ : ∀ c' a', Step c0 c' → RInv E ops τ θ l pre (fun k => k < ops.size) c' a' → Q .normal a' c'.w) :
    (fuel : Nat) → (listed : Array Bool) → (c : Ctx) → (a : Act) → listed.size = ops.size → left ops listed ≤ fuel → Step c0 c → RInv E ops τ θ l pre (Listed ops listed) c a → wpAny P .any ops Q fuel listed a c.w
  | fuel, listed, c, a, hs, hf, hst, hI => by
    have hend : Region.ready .any ops listed = [] → Q .normal a c.w := fun h => by
      refine hQ c a hst ?_
      have hall := ready_nil hp hs h
      have e : Listed ops listed = fun k => k < ops.size := by
        funext k
        exact propext ⟨fun h => h.1, fun h => hall k h⟩
      rw [← e]; exact hI
    cases fuel with
    | zero =>
      have hnil : Region.ready .any ops listed = [] := by
        cases hr : Region.ready .any ops listed with
        | nil => rfl
        | cons i rest =>
          exfalso
          have hi : i ∈ Region.ready .any ops listed := by rw [hr]; simp
          obtain ⟨h1, o, ho, _⟩ := mem_ready.1 hi
          have hk : i < ops.size := (Array.getElem?_eq_some_iff.1 ho).1
          have : i ∈ (List.range ops.size).filter fun k => !listed.getD k true := by
            rw [List.mem_filter]; exact ⟨by simpa using hk, by rw [h1]; rfl⟩
          have := List.length_pos_of_mem this
          unfold left at hf
          omega
      exact ⟨hnil, hend hnil⟩
    | succ fuel =>
      refine ⟨hend, fun i hi => ?_⟩
      obtain ⟨h1, o, ho, h2⟩ := mem_ready.1 hi
      have hk : i < ops.size := (Array.getElem?_eq_some_iff.1 ho).1
      have hnl : ¬ Listed ops listed i := fun h => by rw [h.2] at h1; cases h1
      have hpre : ∀ q ∈ pre i, Listed ops listed q := fun q hq => by
        obtain ⟨y, hy, e, he, hb, hc⟩ := hp.waits i q hq
        rw [ho] at hy; injection hy with hy; subst hy
        have hlt := hp.back i _ ho e he hb
        have hle := h2 e (by simpa using he) hb
        have hL : Listed ops listed e.on := ⟨by omega, by rw [getD_eq hs (by omega)]; exact hle⟩
        rcases hc with rfl | hc
        · exact hL
        · exact hI.closed _ _ hL hc
      refine op_comes hp htop hI ho hnl hpre hE hcall fun c' a' k1 k2 => ?_
      refine any_sound hE hcall hp htop hQ fuel (listed.setIfInBounds i true) c' a' (by simpa using hs) ?_ (hst.trans k1) ?_
      · unfold left at hf ⊢
        have hlt := filter_lt (p := fun k => !listed.getD k true) (q := fun k => !(listed.setIfInBounds i true).getD k true) (j := i) (List.range ops.size) (fun x hx => by
          by_cases e : i = x
          · subst e
            have : i < listed.size := by omega
            simp [Array.getD, this] at hx
          · rw [getD_set_ne true e] at hx; exact hx) (by simpa using hk) (by simp only [h1]; rfl) (by
          have : i < listed.size := by omega
          simp [Array.getD, this])
        omega
      · have e : Listed ops (listed.setIfInBounds i true) = fun k => Listed ops listed k ∨ k = i := by
          funext k
          refine propext ⟨fun h => ?_, fun h => ?_⟩
          · by_cases e : i = k
            · exact .inr e.symm
            · exact .inl ⟨h.1, by have := h.2; rwa [getD_set_ne true e] at this⟩
          · rcases h with h | rfl
            · by_cases e : i = k
              · subst e; exact absurd h hnl
              · exact ⟨h.1, by rw [getD_set_ne true e]; exact h.2⟩
            · have : k < listed.size := by omega
              exact ⟨hk, by simp [Array.getD, this]⟩
        rw [e]; exact k2
  termination_by fuel => fuel

theorem drawn_ok (hE : EnvOK P E) (hcall : CallOK P E call) : DrawnOK P E call := by
  intro f r ops T T' H H' l c a hd h ha hs
  obtain ⟨τ, θ, pre, h1, h2, h3, h4, hp⟩ := plan_of hd h ha
  refine wp_region_any hE.mixed ?_
  obtain ⟨s1, i1⟩ := step_drew hs.inv
  have hw : ({ c.w with drawn := c.w.drawn + 1 } : World) = (c.at_ c.w.drew).w := rfl
  rw [hw]
  have htop : ∀ t, (τ 0).n ≤ t → (τ 0).get t = .top := by rw [h1]; exact hs.tmps.2.2
  have hnone : ∀ k, ¬ Listed ops (Array.replicate ops.size false) k := fun k hk => by
    have h1 := hk.1
    have h2 := hk.2
    simp [Array.getD, h1] at h2
  have hH : (c.at_ c.w.drew).H = fun i => (θ 0)[i]? := by rw [h2]; exact hs.heap
  refine any_sound hE hcall hp htop (c0 := c) (fun c' a' k1 k2 => ?_) ops.size _ _ a (by simp) ?_ s1 ⟨fun k hk => absurd hk (hnone k), fun k i hk => absurd hk (hnone k), i1, hs.def_, by rw [h1]; exact hs.tmps.1, fun t ht => ?_, fun id ob hob => ?_, fun id hid => ?_, fun id hid => ?_, fun k id hk => absurd hk (hnone k)⟩
  · -- all have come up
    refine ⟨c', rfl, k1, k2.inv, ?_, k2.def_, rfl, fun _ => ?_⟩
    · funext id
      show c'.H id = H'[id]?
      rw [← h4]
      cases hc : c'.H id with
      | some ob =>
        obtain ⟨k, hk, q1, _, q3⟩ := k2.obj id ob hc
        rw [obj_eq hp hk (Nat.le_refl _) (fun k' a1 a2 => q1 k' a1 a2) (List.getElem?_eq_some_iff.1 q3).1, q3]
      | none =>
        rcases Nat.lt_or_ge id (θ ops.size).length with g | g
        · exfalso
          refine k2.have_ id ?_ hc
          rcases Nat.lt_or_ge id (θ 0).length with g0 | g0
          · exact .inl g0
          · right
            -- the operation that made it
            have : ∀ n, n ≤ ops.size → id < (θ n).length → ∃ k, k < ops.size ∧ Mk θ k id := fun n => by
              induction n with
              | zero => intro _ h; omega
              | succ n ih =>
                intro hn hlt
                rcases Nat.lt_or_ge id (θ n).length with g1 | g1
                · exact ih (by omega) g1
                · exact ⟨n, by omega, g1, hlt⟩
            exact this ops.size (Nat.le_refl _) g
        · rw [List.getElem?_eq_none g]
    · have hn := n_same hp ops.size (Nat.le_refl _)
      rw [← h3]
      refine ⟨by rw [hn]; exact k2.size, fun t ht => ?_, fun t ht => ?_⟩
      · have ht' : t < (τ 0).n := by rw [← hn]; exact ht
        obtain ⟨k, hk, q1, _, q3⟩ := k2.slot t ht'
        have := slot_eq hp hk (Nat.le_refl _) (t := t) (fun k' a1 a2 => q1 k' a1 a2)
        show Rep c' ((τ ops.size).get t) _
        rw [this]; exact q3
      · have ht' : (τ 0).n ≤ t := by rw [← hn]; exact ht
        exact top_get hp htop ops.size (Nat.le_refl _) t ht'
  · unfold left
    have := List.length_filter_le (fun k => !(Array.replicate ops.size false).getD k true) (List.range ops.size)
    simpa using this
  · refine ⟨0, Nat.zero_le _, fun k' _ hk => absurd hk (hnone k'), .inl rfl, ?_⟩
    rw [h1] at ht ⊢
    exact (hs.tmps.2.1 t ht).mono s1.le
  · refine ⟨0, Nat.zero_le _, fun k' _ hk => absurd hk (hnone k'), .inl rfl, ?_⟩
    rw [hH] at hob
    exact hob
  · rcases hid with hid | ⟨k, hk, _⟩
    · rw [hH]
      simp only
      rw [List.getElem?_eq_getElem hid]
      simp
    · exact absurd hk (hnone k)
  · left
    rw [hH] at hid
    rcases Nat.lt_or_ge id (θ 0).length with g | g
    · exact g
    · exact absurd (List.getElem?_eq_none g) hid

/-- **The evaluator is sound.** -/
theorem pcall_ok (hE : EnvOK P E) (hO : OrcOK P E) (k : Nat) : CallOK P E (pcall E k) := pcall_sound hE hO (fun k h => drawn_ok hE h) k

end
end Go.Cv
