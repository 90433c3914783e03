/- A call that may write, and the other operations that write. -/
import Derived.Test.YtlfkhemmgkdjjaaGreatDoorCvCall
set_option linter.unusedSimpArgs false
set_option linter.unusedVariables false
namespace Go.Cv
open Go.RowKit

section
variable {P : Program} {E : Env} {c : Ctx} {call : CallF}

/-- What a call may touch. -/
def callTouch (byref : Bool) (args : List D) (H : Heap) : List Nat :=
  reach H 1000 (idsL (if byref then args else (viewL H args).getD [])) [] ++ idsL args

theorem full_sound (hcall : CallOK P E call) (hi : Inv E c) {H H' : Heap} {plain byref : Bool} {g : FuncId} {args : List D} {vs : Array Value} {o : Out}
    (hH : ∀ id ∈ callTouch byref args H, ∀ ob, H[id]? = some ob → c.H id = some ob) (hnew : ∀ i, H.length ≤ i → i < H'.length → c.H i = none)
    (h : callFull call plain byref g args H = some (o, H')) (hv : RepL c args vs.toList) :
    CallX P g vs c.w fun e w' => ∃ c' W, c'.w = w' ∧ Step c c' ∧ Inv E c' ∧ OutRep c' o e ∧ (∀ i ∈ W, i ∈ callTouch byref args H) ∧ HStep H H' c.H c'.H W := by
  unfold callFull at h
  split at h
  · cases h
  rename_i args' hargs
  simp only at h
  -- what is lent
  obtain ⟨lent, hlent⟩ : ∃ lent, lent = (if byref = true then [] else args.flatMap arrs.arr1) := ⟨_, rfl⟩
  rw [← hlent] at h
  obtain ⟨l, hl⟩ : ∃ l, l = reach H 1000 (idsL args') [] := ⟨_, rfl⟩
  rw [← hl] at h
  have hT1 : ∀ i ∈ l, i ∈ callTouch byref args H := fun i hm => by
    unfold callTouch
    rw [List.mem_append]
    left
    rw [hl] at hm
    cases byref
    · simp only [Bool.false_eq_true, if_false] at hargs ⊢
      rw [hargs]; exact hm
    · simp only [if_true, Option.some.injEq] at hargs ⊢
      rw [hargs]; exact hm
  have hT2 : ∀ i ∈ lent, i ∈ callTouch byref args H := fun i hm => by
    unfold callTouch
    rw [List.mem_append]
    right
    rw [hlent] at hm
    split at hm
    · simp at hm
    · rw [← arrsL_flatMap] at hm; exact arrsL_ids hm
  split at h
  · cases h
  rename_i hdis
  have hdis' : ∀ i ∈ lent, i ∉ l := fun i hm => by
    have this := hdis
    simp only [Bool.not_eq_true', Bool.not_eq_false] at this
    simpa using List.all_eq_true.1 this i hm
  split at h
  · cases h
  rename_i Hc hpick
  obtain ⟨hpl, hpg⟩ := pickObs_get hpick
  split at h
  · cases h
  rename_i hck
  simp only [Bool.not_eq_true', Bool.not_eq_false, Bool.and_eq_true, List.all_eq_true, List.contains_eq_mem, decide_eq_true_eq] at hck
  obtain ⟨⟨hck1, hck2⟩, hck3⟩ := hck
  have hnd := nodup_spec hck3
  split at h
  · cases h
  rename_i o0 H0 hc
  split at h
  · cases h
  rename_i hk
  -- lend
  have hrow : ∀ id ∈ lent, ∀ ob, H[id]? = some ob → c.H id = some ob ∧ rowFree ob.xs = true := fun id hm ob ho => by
    refine ⟨hH id (hT2 id hm) ob ho, ?_⟩
    rw [hlent] at hm
    split at hm
    · simp at hm
    · rename_i hb
      rw [if_neg hb] at hargs
      rw [← arrsL_flatMap] at hm
      obtain ⟨ob', q1, q2⟩ := viewL_arrs hargs id hm
      rw [ho] at q1; injection q1 with q1; subst q1; exact q2
  obtain ⟨c1, s1, s2, s3, s4, s5, s6, W1, s7, s8⟩ := share_sound H lent H hi hrow
  have hv1 : RepL c1 args' vs.toList := by
    by_cases hb : byref = true
    · rw [if_pos hb] at hargs
      injection hargs with hargs
      subst hargs
      exact hv.mono s2.le
    · rw [if_neg hb] at hargs hlent
      refine viewL_rep s3 hargs (hv.mono s2.le) fun id hm ob ho => ?_
      have hm' : id ∈ lent := by rw [hlent, ← arrsL_flatMap]; exact hm
      rw [s8.at (List.getElem?_eq_some_iff.1 ho).1 ((hH id (hT2 id hm') ob ho).trans ho.symm), shareAll_get, if_pos hm', ho]; rfl
  have hltl : ∀ i ∈ l, i < H.length := fun i hm => by
    obtain ⟨ob, q1, _⟩ := hpg _ i (getElem_idxOf hm)
    exact (List.getElem?_eq_some_iff.1 q1).1
  have hp : Picked c1 l Hc := ⟨hnd, hpl, fun j id hj => by
    obtain ⟨ob, q1, q2⟩ := hpg j id hj
    refine ⟨ob, ?_, q2⟩
    have hm := List.mem_of_getElem? hj
    have hnl : id ∉ W1 := fun hw => hdis' id (s7 id hw) hm
    have hlt := hltl id hm
    rw [s8.same id hnl (by omega)]
    exact hH id (hT1 id hm) ob q1, fun ob ho id hid => hck2 ob ho id hid⟩
  have i0 := local_inv s3 hp
  have hcells : Cells c1 (c1.local_ l Hc) := fun b o u h k => ⟨h, k⟩
  have hC := hcall (c1.local_ l Hc) _ g _ vs _ _ i0 rfl (RepL.ren hcells _ _ (fun id hid => local_obl hp (hck1 id hid)) hv1) hc
  have hw : (c1.local_ l Hc).w = c.w := s1
  rw [hw] at hC
  have hslen : (shareAll H lent).length = H.length := shareAll_length _ _
  have hnone : ∀ m, (∀ j, j < m → H.length + j < H'.length) → ∀ j, j < m → c1.H ((shareAll H lent).length + j) = none := fun m hm j hj => by
    rw [hslen, s8.same _ (fun hw => by have := s8.w _ hw; omega) (by rw [hslen]; omega)]
    exact hnew _ (by omega) (hm j hj)
  have hnl : ∀ m j, j < m → (shareAll H lent).length + j ∉ l := fun m j hj hm => by
    have := hltl _ hm
    rw [hslen] at this
    omega
  -- what is put back
  have hback : ∀ (m : Nat) (c0 : Ctx) (H1 : Heap), l.length + m ≤ H1.length → Step (c1.local_ l Hc) c0 → Inv E c0 → c0.H = (fun i => H1[i]?) → (∀ j ob, j < l.length + m → H1[j]? = some ob → ∀ id ∈ obIds ob, id < l.length + m) →
      H' = putBack (shareAll H lent) l ((H1.take l.length).map (obRen (numb l (shareAll H lent).length))) ++ ((H1.drop l.length).take m).map (obRen (numb l (shareAll H lent).length)) →
      ∃ c' W, c'.w = c0.w ∧ Step c c' ∧ Inv E c' ∧ (∀ d v, (∀ id ∈ ids d, id < l.length + m) → Rep c0 d v → Rep c' (Cv.ren (numb l (shareAll H lent).length) d) v) ∧ (∀ i ∈ W, i ∈ callTouch byref args H) ∧ HStep H H' c.H c'.H W := fun m c0 H1 hm k1 k2 k3 hcl hH' => by
    have hlenH' : H'.length = H.length + m := by
      rw [hH', List.length_append, putBack_length, hslen]
      simp; omega
    obtain ⟨b1, b2, b3⟩ := back_sound s3 hp k1 k2 k3 hm (hnone m (fun j hj => by omega)) (hnl m) hcl
    have hst : HStep (shareAll H lent) H' c1.H (c1.back c0 l (shareAll H lent).length m).H l := by
      rw [hH']
      exact back_hstep hnd (fun i hm => by rw [hslen]; exact hltl i hm) k3 hm
    refine ⟨c1.back c0 l (shareAll H lent).length m, _, rfl, s2.trans b1, b2, b3, ?_, s8.trans hst⟩
    intro i hm
    rw [List.mem_append, List.mem_filter] at hm
    rcases hm with hm | hm
    · exact hT2 i (s7 i hm)
    · exact hT1 i hm.1
  refine CallX.mono hC fun e w' hh => ?_
  obtain ⟨c0, rfl, k1, k2, k3, k4⟩ := hh
  have hnumb : (fun j => if j < l.length then l.getD j 0 else (shareAll H lent).length + (j - l.length)) = numb l (shareAll H lent).length := rfl
  split at h
  · -- a panic
    rename_i d
    split at h
    case isFalse => cases h
    rename_i hfd
    simp only [Bool.and_eq_true, List.all_eq_true, decide_eq_true_eq] at hfd
    injection h with h
    simp only [Prod.mk.injEq] at h
    obtain ⟨rfl, hH'⟩ := h
    have htk : (H0.drop l.length).take (H0.length - l.length) = H0.drop l.length := List.take_of_length_le (by simp)
    obtain ⟨c', W, m1, m2, m3, m4, m5, m6⟩ := hback (H0.length - l.length) c0 H0 (by omega) k1 k2 k3 (fun j ob hj ho id hid => by
      have := hfd.2 ob (List.mem_of_getElem? ho) id hid; omega) (by rw [htk]; exact hH'.symm)
    obtain ⟨v, rfl, hr⟩ := k4
    refine ⟨c', W, m1, m2, m3, ⟨v, rfl, ?_⟩, m5, m6⟩
    have := m4 d v (fun id hid => by rw [idFree_ids d hfd.1] at hid; simp at hid) hr
    have hrn : Cv.ren (numb l (shareAll H lent).length) d = d := by
      have e1 : Cv.ren (numb l (shareAll H lent).length) d = Cv.ren (fun i => i) d := ren_congr d (fun id hid => by rw [idFree_ids d hfd.1] at hid; simp at hid)
      rw [e1, ren_id]
    rwa [hrn] at this
  · -- a value
    rename_i d0
    split at h
    · cases h
    rename_i d H1 hplain
    obtain ⟨v, rfl, hr⟩ := k4
    obtain ⟨c2, m1, m2, m3, m4, m5, m6⟩ := plainOut_sound k2 k3 hplain hr
    split at h
    · rename_i hb
      simp only [Bool.and_eq_true, List.all_eq_true, decide_eq_true_eq] at hb
      injection h with h
      simp only [Prod.mk.injEq] at h
      obtain ⟨rfl, hH'⟩ := h
      obtain ⟨c', W, q1, q2, q3, q4, q5, q6⟩ := hback 0 c2 H1 (by omega) (k1.trans m2) m3 m4 (fun j ob hj ho id hid => by
        refine hb.2 ob ?_ id hid
        have : (H1.take l.length)[j]? = some ob := by rw [List.getElem?_take, if_pos (by omega)]; exact ho
        exact List.mem_of_getElem? this) (by rw [← hH']; simp only [List.take_zero, List.map_nil, List.append_nil]; rfl)
      exact ⟨c', W, by rw [q1, m1], q2, q3, ⟨v, rfl, q4 d v (fun id hid => by simpa using hb.1 id hid) m6⟩, q5, q6⟩
    · split at h
      case isFalse => cases h
      rename_i hb
      simp only [Bool.and_eq_true, List.all_eq_true, decide_eq_true_eq] at hb
      injection h with h
      simp only [Prod.mk.injEq] at h
      obtain ⟨rfl, hH'⟩ := h
      have htk : (H1.drop l.length).take (H1.length - l.length) = H1.drop l.length := List.take_of_length_le (by simp)
      obtain ⟨c', W, q1, q2, q3, q4, q5, q6⟩ := hback (H1.length - l.length) c2 H1 (by omega) (k1.trans m2) m3 m4 (fun j ob hj ho id hid => by
        have := hb.2 ob (List.mem_of_getElem? ho) id hid; omega) (by rw [htk]; exact hH'.symm)
      exact ⟨c', W, by rw [q1, m1], q2, q3, ⟨v, rfl, q4 d v (fun id hid => by have := hb.1 id hid; omega) m6⟩, q5, q6⟩

end
end Go.Cv
