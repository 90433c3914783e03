/- Arrays that are lent, or handed on as lists: what they hold is written no more. -/
import Derived.Test.YtlfkhemmgkdjjaaGreatDoorCvOps8
set_option linter.unusedSimpArgs false
set_option linter.unusedVariables false
namespace Go.Cv
open Go.RowKit

theorem HStep.trans {H H1 H2 : Heap} {f f1 f2 : Nat → Option Ob} {W1 W2 : List Nat} (a : HStep H H1 f f1 W1) (b : HStep H1 H2 f1 f2 W2) : HStep H H2 f f2 (W1 ++ W2.filter (· < H.length)) := by
  have hm : ∀ i, i ∈ W1 ++ W2.filter (· < H.length) ↔ i ∈ W1 ∨ (i ∈ W2 ∧ i < H.length) := fun i => by simp
  have hl := a.len
  have hl2 := b.len
  refine ⟨fun i h => ?_, by omega, fun i h1 h2 => ?_, fun i h1 h2 => ?_, fun i h1 h2 => ?_, fun i h1 h2 => ?_⟩
  · rcases (hm i).1 h with h | h
    · exact a.w i h
    · exact h.2
  · by_cases q : i ∈ W2
    · exact b.old i q (b.w i q)
    · rcases Nat.lt_or_ge i H1.length with g | g
      · rw [b.same i q (by omega), a.new i h1 g, b.hsame i q g]
      · exact b.new i g h2
  · by_cases q : i ∈ W2
    · exact b.old i q (b.w i q)
    · rcases (hm i).1 h1 with h | h
      · rw [b.same i q (by omega), a.old i h h2, b.hsame i q (by omega)]
      · exact absurd h.1 q
  · rw [hm] at h1
    have q1 : i ∉ W1 := fun h => h1 (.inl h)
    have q2 : i ∉ W2 := fun h => by
      have := b.w i h
      rcases Nat.lt_or_ge i H.length with g | g
      · exact h1 (.inr ⟨h, g⟩)
      · exact h2 ⟨g, by omega⟩
    rw [b.same i q2 (by omega), a.same i q1 (by omega)]
  · rw [hm] at h1
    have q1 : i ∉ W1 := fun h => h1 (.inl h)
    have q2 : i ∉ W2 := fun h => h1 (.inr ⟨h, h2⟩)
    rw [b.hsame i q2 (by omega), a.hsame i q1 h2]

section
variable {P : Program} {E : Env} {c : Ctx}

/-- What an object holds now is written no more. -/
def Ctx.share (c : Ctx) (id : Nat) (ob : Ob) : Ctx :=
  { c with R := fun b o => c.R b o ∧ ¬ (b = c.η id ∧ o < ob.xs.length * c.σ id), H := upd c.H id (some ⟨ob.xs, ob.xs.length⟩) }

theorem step_share (hi : Inv E c) {id : Nat} {ob : Ob} (hob : c.H id = some ob) (hf : ∀ x ∈ ob.xs, idFreeL x = true) : Step c (c.share id ob) ∧ Inv E (c.share id ob) := by
  have hO := hi.ob id ob hob
  have hcell : Cells c (c.share id ob) := fun b off u h k => ⟨h, fun q => k q.1⟩
  have hobs : ∀ i, Obl c (c.share id ob) i i := fun i ob1 h => by
    by_cases e : i = id
    · subst e
      rw [hob] at h; injection h with h; subst h
      exact ⟨⟨ob.xs, ob.xs.length⟩, upd_same .., Nat.le_refl _, fun _ => ⟨rfl, rfl, rfl⟩⟩
    · exact ⟨ob1, by show upd c.H id _ i = _; rw [upd_ne _ _ e]; exact h, Nat.le_refl _, fun _ => ⟨rfl, rfl, rfl⟩⟩
  have hle : Le c (c.share id ob) := ⟨hcell, hobs⟩
  have hback : ∀ i ob1, (c.share id ob).H i = some ob1 → ∃ ob2, c.H i = some ob2 := fun i ob1 h => by
    by_cases e : i = id
    · subst e; exact ⟨ob, hob⟩
    · exact ⟨ob1, by have h' : upd c.H id _ i = some ob1 := h; rwa [upd_ne _ _ e] at h'⟩
  refine ⟨⟨hle, rfl, rfl, rfl, Nat.le_refl _, fun b hb hn => ⟨rfl, fun o => ⟨fun q => q.1, fun q => ⟨q, fun e => hn id ob hob e.1.symm⟩⟩⟩, fun i ob1 h => ?_⟩, ?_⟩
  · obtain ⟨ob2, h2⟩ := hback i ob1 h
    exact .inl ⟨ob2, h2, rfl⟩
  · refine ⟨fun i j oi oj h1 h2 e => ?_, fun b off hb q => hi.new b off hb q.1, fun i ob1 h => ?_, glob_mono hle hi.glob⟩
    · obtain ⟨o1, k1⟩ := hback i oi h1
      obtain ⟨o2, k2⟩ := hback j oj h2
      exact hi.inj i j o1 o2 k1 k2 e
    · by_cases e : i = id
      · subst e
        have h' : (⟨ob.xs, ob.xs.length⟩ : Ob) = ob1 := by have h' : upd c.H i (some (⟨ob.xs, ob.xs.length⟩ : Ob)) i = some ob1 := h; rw [upd_same] at h'; injection h'
        subst h'
        refine ⟨hO.blk, hO.len, hO.cap, fun k x hx => ?_, fun o ho => ⟨hO.res o ?_, fun q => ?_⟩, fun o ho q => q.2 ⟨rfl, ho⟩, fun k x hx _ => hf x (List.mem_of_getElem? hx), Nat.le_refl _, hO.emp⟩
        · obtain ⟨h1, h2⟩ := hO.row k x hx
          exact ⟨h1, fun j d hd => by obtain ⟨k1, u, k2, k3⟩ := h2 j d hd; exact ⟨k1, u, k2, k3.mono hle⟩⟩
        · have := Nat.mul_le_mul_right (c.σ i) hO.sh
          have ho' : ob.xs.length * c.σ i ≤ o := ho
          omega
        · have ho' : ob.xs.length * c.σ i ≤ o := ho
          have := q.2
          omega
      · have h' : c.H i = some ob1 := by have h' : upd c.H id _ i = some ob1 := h; rwa [upd_ne _ _ e] at h'
        have hne : c.η i ≠ c.η id := fun k => e (hi.inj i id ob1 ob h' hob k)
        exact (hi.ob i ob1 h').move rfl rfl rfl rfl (fun o => ⟨fun q => q.1, fun q => ⟨q, fun e => hne e.1⟩⟩) hle

theorem shareAll_get (H : Heap) : (l : List Nat) → (i : Nat) → (shareAll H l)[i]? = if i ∈ l then H[i]?.map fun ob => ⟨ob.xs, ob.xs.length⟩ else H[i]?
  | [], i => by simp [shareAll]
  | id :: l, i => by
    simp only [shareAll]
    cases hid : H[id]? with
    | none =>
      simp only
      rw [shareAll_get H l i]
      by_cases e : i = id
      · subst e; simp [hid]
      · simp [e]
    | some ob =>
      simp only
      rw [shareAll_get _ l i]
      have hlt := (List.getElem?_eq_some_iff.1 hid).1
      by_cases e : i = id
      · subst e
        have hg : H[i] = ob := (List.getElem?_eq_some_iff.1 hid).2
        simp [List.getElem?_set, hlt, hid, hg]
      · have e' : id ≠ i := fun h => e h.symm
        simp [List.getElem?_set, e, e']

theorem shareAll_length (H : Heap) : (l : List Nat) → (shareAll H l).length = H.length
  | [] => rfl
  | id :: l => by
    simp only [shareAll]
    cases hid : H[id]? with
    | none => simp only; exact shareAll_length H l
    | some ob => simp only; rw [shareAll_length _ l]; simp

/-- All of them shared: the world stands. -/
theorem share_sound (H : Heap) : (l : List Nat) → {c : Ctx} → (H : Heap) → Inv E c → (∀ id ∈ l, ∀ ob, H[id]? = some ob → c.H id = some ob ∧ rowFree ob.xs = true) →
    ∃ c', c'.w = c.w ∧ Step c c' ∧ Inv E c' ∧ c'.η = c.η ∧ c'.κ = c.κ ∧ c'.σ = c.σ ∧ ∃ W, (∀ i ∈ W, i ∈ l) ∧ HStep H (shareAll H l) c.H c'.H W
  | [], c, H, hi, h => ⟨c, rfl, Step.refl c, hi, rfl, rfl, rfl, [], by simp, HStep.refl _ _⟩
  | id :: l, c, H, hi, h => by
    simp only [shareAll]
    cases hid : H[id]? with
    | none =>
      simp only
      obtain ⟨c', h1, h2, h3, h4, h5, h6, W, h7, h8⟩ := share_sound H l H hi (fun i hm => h i (by simp [hm]))
      exact ⟨c', h1, h2, h3, h4, h5, h6, W, fun i hm => by simp [h7 i hm], h8⟩
    | some ob =>
      simp only
      obtain ⟨k1, k2⟩ := h id (by simp) ob hid
      obtain ⟨s1, i1⟩ := step_share hi k1 (fun x hx => List.all_eq_true.1 k2 x hx)
      have hH : HStep H (H.set id ⟨ob.xs, ob.xs.length⟩) c.H (c.share id ob).H [id] := HStep.set H c.H _ hid
      obtain ⟨c', h1, h2, h3, h4, h5, h6, W, h7, h8⟩ := share_sound H l (H.set id ⟨ob.xs, ob.xs.length⟩) i1 (fun i hm ob' ho => by
        have hlt := (List.getElem?_eq_some_iff.1 hid).1
        by_cases e : i = id
        · subst e
          simp [List.getElem?_set, hlt] at ho
          subst ho
          exact ⟨upd_same .., k2⟩
        · have e' : id ≠ i := fun h => e h.symm
          simp [List.getElem?_set, e'] at ho
          obtain ⟨q1, q2⟩ := h i (by simp [hm]) ob' ho
          exact ⟨by show upd c.H id _ i = _; rw [upd_ne _ _ e]; exact q1, q2⟩)
      refine ⟨c', h1, s1.trans h2, h3, h4, h5, h6, _, ?_, hH.trans h8⟩
      intro i hm
      simp at hm
      rcases hm with rfl | hm
      · simp
      · simp [h7 i hm.1]

/-- An array's list: every cell of it is read alone. -/
theorem shared_rows (hi : Inv E c) {id : Nat} {ob : Ob} (hob : c.H id = some ob) (hs : ob.sh = ob.xs.length) : RepRows c (c.σ id) ob.xs (c.η id) 0 := by
  have hO := hi.ob id ob hob
  refine RepRows.of fun i x hx => ?_
  obtain ⟨h1, h2⟩ := hO.row i x hx
  have hil : i < ob.xs.length := (List.getElem?_eq_some_iff.1 hx).1
  refine ⟨h1, RepCells.of fun j d hd => ?_⟩
  obtain ⟨k1, u, k2, k3⟩ := h2 j d hd
  refine ⟨idFreeL_mem (hO.shd i x hx (by omega)) d (List.mem_of_getElem? hd), k1, u, by rw [Nat.zero_add]; exact k2, ?_, k3⟩
  rw [Nat.zero_add]
  refine hO.unr _ ?_
  have hj : j < c.σ id := by have := (List.getElem?_eq_some_iff.1 hd).1; omega
  have := Nat.mul_le_mul_right (c.σ id) (show i + 1 ≤ ob.sh by omega)
  rw [Nat.add_mul] at this
  omega

theorem view1_rep (hi : Inv E c) {H : Heap} {d d' : D} {v : Value} (h : view1 H d = some d') (hv : Rep c d v) (hs : ∀ id ∈ arrs.arr1 d, ∀ ob, H[id]? = some ob → c.H id = some ⟨ob.xs, ob.xs.length⟩) : Rep c d' v := by
  unfold view1 at h
  split at h
  · injection h with h
    subst h
    simp only [Rep] at hv ⊢
    obtain ⟨a, rfl⟩ := hv
    exact ⟨a, 0, 0, rfl, rfl, Nat.le_refl _, by simp, .inl trivial⟩
  · rename_i id n
    split at h
    case h_2 => cases h
    rename_i ob hob
    split at h
    case isFalse => cases h
    rename_i hc
    simp only [Bool.and_eq_true, beq_iff_eq] at hc
    injection h with h
    subst h
    have hcH := hs id (by simp [arrs.arr1]) ob hob
    simp only [Rep] at hv ⊢
    obtain ⟨_, ob1, q1, q2, q3⟩ := hv
    rw [hcH] at q1; injection q1 with q1; subst q1
    have hO := hi.ob id _ hcH
    refine ⟨_, _, _, q3 hc.1.symm, hc.1.symm, by have := hO.len; simp at this; omega, hO.cap, .inr ⟨_, _, c.σ id, rfl, (shared_rows hi hcH rfl :)⟩⟩
  · rename_i id n lo hi'
    split at h
    case h_2 => cases h
    rename_i ob hob
    split at h
    case isFalse => cases h
    rename_i hc
    simp only [Bool.and_eq_true, beq_iff_eq] at hc
    injection h with h
    subst h
    have hcH := hs id (by simp [arrs.arr1]) ob hob
    simp only [Rep] at hv ⊢
    obtain ⟨_, ob1, q1, q2, q4, q5, q3⟩ := hv
    rw [hcH] at q1; injection q1 with q1; subst q1
    obtain ⟨a, cap, r1, r2, r3, r4⟩ := q3 hc.1.symm
    have hl : ((ob.xs.take hi').drop lo).length = hi' - lo := by simp; simp at q2; omega
    refine ⟨_, _, _, r1, hl.symm, r2, r3, ?_⟩
    rcases r4 with r4 | r4
    · left
      exact List.eq_nil_of_length_eq_zero (by omega)
    · have hr := ((shared_rows hi hcH rfl :).take hi').drop lo
      rw [Nat.zero_add] at hr
      exact .inr ⟨_, _, c.σ id, r4, hr⟩
  · injection h with h
    subst h
    exact hv

theorem viewL_rep (hi : Inv E c) {H : Heap} : {ds ds' : List D} → {vs : List Value} → viewL H ds = some ds' → RepL c ds vs → (∀ id ∈ arrs.arrsL ds, ∀ ob, H[id]? = some ob → c.H id = some ⟨ob.xs, ob.xs.length⟩) → RepL c ds' vs
  | [], ds', vs, h, hv, hs => by simp only [viewL, Option.some.injEq] at h; subst h; exact hv
  | d :: ds, ds', vs, h, hv, hs => by
    simp only [viewL] at h
    split at h
    case h_2 => cases h
    rename_i x xs h1 h2
    injection h with h
    subst h
    simp only [RepL] at hv ⊢
    obtain ⟨u, us, rfl, k1, k2⟩ := hv
    exact ⟨u, us, rfl, view1_rep hi h1 k1 (fun id hm => hs id (by simp [arrs.arrsL, hm])), viewL_rep hi h2 k2 (fun id hm => hs id (by simp [arrs.arrsL, hm]))⟩

theorem viewT_rep (hi : Inv E c) {H : Heap} : {ds ds' : List D} → {vs : List Value} → view.viewT H ds = some ds' → RepL c ds vs → (∀ id ∈ arrs.arrsT ds, ∀ ob, H[id]? = some ob → c.H id = some ⟨ob.xs, ob.xs.length⟩) → RepL c ds' vs
  | [], ds', vs, h, hv, hs => by simp only [view.viewT, Option.some.injEq] at h; subst h; exact hv
  | d :: ds, ds', vs, h, hv, hs => by
    simp only [RepL] at hv
    obtain ⟨u, us, rfl, k1, k2⟩ := hv
    unfold view.viewT at h
    split at h
    · rename_i e; cases e
    · rename_i cs l e
      injection e with e1 e2
      subst e1 e2
      split at h
      case h_2 => cases h
      rename_i x xs h1 h2
      injection h with h
      subst h
      simp only [RepL]
      simp only [Rep] at k1 ⊢
      obtain ⟨ws, rfl, k3⟩ := k1
      exact ⟨_, us, rfl, ⟨ws, rfl, viewL_rep hi h1 k3 (fun id hm => hs id (by simp [arrs.arrsT, hm]))⟩, viewT_rep hi h2 k2 (fun id hm => hs id (by simp [arrs.arrsT, hm]))⟩
    · rename_i d0 l hne e
      injection e with e1 e2
      subst e1 e2
      split at h
      case h_2 => cases h
      rename_i x xs h1 h2
      injection h with h
      subst h
      simp only [RepL]
      have hT : arrs.arrsT (d :: ds) = arrs.arr1 d ++ arrs.arrsT ds := by
        cases d <;> first | rfl | exact absurd rfl (hne _)
      exact ⟨u, us, rfl, view1_rep hi h1 k1 (fun id hm => hs id (by simp [hT, hm])), viewT_rep hi h2 k2 (fun id hm => hs id (by simp [hT, hm]))⟩

theorem view_rep (hi : Inv E c) {H : Heap} {d d' : D} {v : Value} (h : view H d = some d') (hv : Rep c d v) (hs : ∀ id ∈ arrs d, ∀ ob, H[id]? = some ob → c.H id = some ⟨ob.xs, ob.xs.length⟩) : Rep c d' v := by
  unfold view at h
  split at h
  · rename_i cs
    simp only [Option.map_eq_some_iff] at h
    obtain ⟨cs', h1, rfl⟩ := h
    simp only [Rep] at hv ⊢
    obtain ⟨ws, rfl, k⟩ := hv
    exact ⟨ws, rfl, viewL_rep hi h1 k (by simpa [arrs] using hs)⟩
  · rename_i ds
    simp only [Option.map_eq_some_iff] at h
    obtain ⟨ds', h1, rfl⟩ := h
    simp only [Rep] at hv ⊢
    obtain ⟨ws, rfl, k⟩ := hv
    exact ⟨ws, rfl, viewT_rep hi h1 k (by simpa [arrs] using hs)⟩
  · rename_i h1 h2
    refine view1_rep hi h hv ?_
    have : arrs d = arrs.arr1 d := by
      cases d <;> first | rfl | exact absurd rfl (h1 _) | exact absurd rfl (h2 _)
    rwa [this] at hs

/-! What is viewed holds no object. -/
theorem view1_arrs {H : Heap} {d d' : D} (h : view1 H d = some d') : ∀ id ∈ arrs.arr1 d, ∃ ob, H[id]? = some ob ∧ rowFree ob.xs = true := by
  unfold view1 at h
  split at h
  · simp [arrs.arr1]
  · rename_i id n
    split at h
    case h_2 => cases h
    rename_i ob hob
    split at h
    case isFalse => cases h
    rename_i hc
    simp only [Bool.and_eq_true] at hc
    intro i hm
    simp [arrs.arr1] at hm
    subst hm
    exact ⟨ob, hob, hc.2⟩
  · rename_i id n lo hi'
    split at h
    case h_2 => cases h
    rename_i ob hob
    split at h
    case isFalse => cases h
    rename_i hc
    simp only [Bool.and_eq_true] at hc
    intro i hm
    simp [arrs.arr1] at hm
    subst hm
    exact ⟨ob, hob, hc.2⟩
  · rename_i h1 h2 h3
    intro id hm
    exfalso
    cases d <;> simp [arrs.arr1] at hm
    · exact h2 _ _ rfl
    · exact h3 _ _ _ _ rfl

theorem viewL_arrs {H : Heap} : {ds ds' : List D} → viewL H ds = some ds' → ∀ id ∈ arrs.arrsL ds, ∃ ob, H[id]? = some ob ∧ rowFree ob.xs = true
  | [], ds', h => by simp [arrs.arrsL]
  | d :: ds, ds', h => by
    simp only [viewL] at h
    split at h
    case h_2 => cases h
    rename_i x xs h1 h2
    intro id hm
    simp only [arrs.arrsL, List.mem_append] at hm
    rcases hm with hm | hm
    · exact view1_arrs h1 id hm
    · exact viewL_arrs h2 id hm

theorem viewT_arrs {H : Heap} : {ds ds' : List D} → view.viewT H ds = some ds' → ∀ id ∈ arrs.arrsT ds, ∃ ob, H[id]? = some ob ∧ rowFree ob.xs = true
  | [], ds', h => by simp [arrs.arrsT]
  | d :: ds, ds', h => by
    unfold view.viewT at h
    split at h
    · rename_i e; cases e
    · rename_i cs l e
      injection e with e1 e2
      subst e1 e2
      split at h
      case h_2 => cases h
      rename_i x xs h1 h2
      intro id hm
      simp only [arrs.arrsT, List.mem_append] at hm
      rcases hm with hm | hm
      · exact viewL_arrs h1 id hm
      · exact viewT_arrs h2 id hm
    · rename_i d0 l hne e
      injection e with e1 e2
      subst e1 e2
      split at h
      case h_2 => cases h
      rename_i x xs h1 h2
      have hT : arrs.arrsT (d :: ds) = arrs.arr1 d ++ arrs.arrsT ds := by
        cases d <;> first | rfl | exact absurd rfl (hne _)
      intro id hm
      rw [hT, List.mem_append] at hm
      rcases hm with hm | hm
      · exact view1_arrs h1 id hm
      · exact viewT_arrs h2 id hm

theorem view_arrs {H : Heap} {d d' : D} (h : view H d = some d') : ∀ id ∈ arrs d, ∃ ob, H[id]? = some ob ∧ rowFree ob.xs = true := by
  unfold view at h
  split at h
  · simp only [Option.map_eq_some_iff] at h
    obtain ⟨cs', h1, rfl⟩ := h
    simpa [arrs] using viewL_arrs h1
  · simp only [Option.map_eq_some_iff] at h
    obtain ⟨cs', h1, rfl⟩ := h
    simpa [arrs] using viewT_arrs h1
  · rename_i h1 h2
    have : arrs d = arrs.arr1 d := by
      cases d <;> first | rfl | exact absurd rfl (h1 _) | exact absurd rfl (h2 _)
    rw [this]
    exact view1_arrs h

/-- A result handed back, as plain lists if that is asked. -/
theorem plainOut_sound (hi : Inv E c) {H H1 : Heap} (hH : c.H = (H[·]?)) {plain : Bool} {d0 d : D} (h : plainOut plain d0 H = some (d, H1)) {v : Value} (hv : Rep c d0 v) :
    ∃ c', c'.w = c.w ∧ Step c c' ∧ Inv E c' ∧ c'.H = (H1[·]?) ∧ H1.length = H.length ∧ Rep c' d v := by
  unfold plainOut at h
  split at h
  · split at h
    case h_2 => cases h
    rename_i d' hd
    injection h with h
    simp only [Prod.mk.injEq] at h
    obtain ⟨rfl, rfl⟩ := h
    obtain ⟨c', h1, h2, h3, h4, h5, h6, W, h7, h8⟩ := share_sound H (arrs d0) (E := E) H hi (fun id hm ob ho => ⟨by rw [hH]; exact ho, by
      obtain ⟨ob', k1, k2⟩ := view_arrs hd id hm
      rw [ho] at k1; injection k1 with k1; subst k1; exact k2⟩)
    have hH' := h8.heap hH
    refine ⟨c', h1, h2, h3, hH', shareAll_length _ _, view_rep h3 hd (hv.mono h2.le) fun id hm ob ho => ?_⟩
    rw [hH']
    simp only
    rw [shareAll_get, if_pos hm, ho]
    rfl
  · injection h with h
    simp only [Prod.mk.injEq] at h
    obtain ⟨rfl, rfl⟩ := h
    exact ⟨c, rfl, Step.refl c, hi, hH, rfl, hv⟩

end
end Go.Cv
