/- Calls: what a callee's contract gives its caller. -/
import Derived.Test.YtlfkhemmgkdjjaaGreatDoorCvLocal
set_option linter.unusedSimpArgs false
set_option linter.unusedVariables false
namespace Go.Cv
open Go.RowKit

def OutRep (c : Ctx) (o : Out) (e : Ending) : Prop :=
  match o with
  | .ret d => ∃ v, e = .returned v ∧ Rep c d v
  | .pan d => ∃ v, e = .panicked [{ v := v, recovered := false }] ∧ Rep c d v

/-- What a function of the evaluator is worth. -/
def CallOK (P : Program) (E : Env) (call : CallF) : Prop :=
  ∀ (c : Ctx) (H : Heap) (g : FuncId) (args : List D) (vs : Array Value) (o : Out) (H' : Heap), Inv E c → c.H = (fun i => H[i]?) → RepL c args vs.toList → call g args H = some (o, H') →
    CallX P g vs c.w fun e w' => ∃ c', c'.w = w' ∧ Step c c' ∧ Inv E c' ∧ c'.H = (fun i => H'[i]?) ∧ OutRep c' o e

theorem HStep.at {H H' : Heap} {f f' : Nat → Option Ob} {W : List Nat} (h : HStep H H' f f' W) {i : Nat} (hi : i < H.length) (hf : f i = H[i]?) : f' i = H'[i]? := by
  by_cases hw : i ∈ W
  · exact h.old i hw hi
  · rw [h.same i hw (by omega), h.hsame i hw hi, hf]

mutual
theorem Rep.flat {c c' : Ctx} : (d : D) → (v : Value) → Cv.flat d = true → idFree d = true → Rep c d v → Rep c' d v
  | .bool _, _, _, _, h => by simpa only [Rep] using h
  | .int _ _, _, _, _, h => by simpa only [Rep] using h
  | .str _, _, _, _, h => by simpa only [Rep] using h
  | .nilp, _, _, _, h => by simpa only [Rep] using h
  | .ptr .., _, _, hf, _ => by simp [idFree] at hf
  | .eptr .., _, hl, _, _ => by simp [Cv.flat] at hl
  | .slc xs, v, hl, _, h => by
    simp only [Rep] at h ⊢
    obtain ⟨a, len, cap, hv, h1, h2, h3, h4⟩ := h
    exact ⟨a, len, cap, hv, h1, h2, h3, .inl (by simpa [Cv.flat] using hl)⟩
  | .emp, _, _, _, h => by simpa only [Rep] using h
  | .arr .., _, _, hf, _ => by simp [idFree] at hf
  | .asl .., _, hl, _, _ => by simp [Cv.flat] at hl
  | .fn f a b, v, hl, hf, h => by
    simp only [Rep] at h ⊢
    simp only [Cv.flat, idFree, Bool.and_eq_true] at hl hf
    obtain ⟨va, vb, hv, h1, h2⟩ := h
    exact ⟨va, vb, hv, RepL.flat a _ hl.1 hf.1 h1, RepL.flat b _ hl.2 hf.2 h2⟩
  | .nilfn, _, _, _, h => by simpa only [Rep] using h
  | .iface t d, v, hl, hf, h => by
    simp only [Rep] at h ⊢
    simp only [Cv.flat, idFree] at hl hf
    obtain ⟨u, hv, h1⟩ := h
    exact ⟨u, hv, Rep.flat d u hl hf h1⟩
  | .niface, _, _, _, h => by simpa only [Rep] using h
  | .agg cs, v, hl, hf, h => by
    simp only [Rep] at h ⊢
    simp only [Cv.flat, idFree] at hl hf
    obtain ⟨vs, hv, h1⟩ := h
    exact ⟨vs, hv, RepL.flat cs _ hl hf h1⟩
  | .tup ds, v, hl, hf, h => by
    simp only [Rep] at h ⊢
    simp only [Cv.flat, idFree] at hl hf
    obtain ⟨vs, hv, h1⟩ := h
    exact ⟨vs, hv, RepL.flat ds _ hl hf h1⟩
  | .top, _, _, _, _ => by simp only [Rep]
theorem RepL.flat {c c' : Ctx} : (ds : List D) → (vs : List Value) → flatL ds = true → idFreeL ds = true → RepL c ds vs → RepL c' ds vs
  | [], vs, _, _, h => by simpa only [RepL] using h
  | d :: ds, vs, hl, hf, h => by
    simp only [RepL] at h ⊢
    simp only [flatL, idFreeL, Bool.and_eq_true] at hl hf
    obtain ⟨u, us, hv, h1, h2⟩ := h
    exact ⟨u, us, hv, Rep.flat d u hl.1 hf.1 h1, RepL.flat ds us hl.2 hf.2 h2⟩
end

theorem arrsL_flatMap : (ds : List D) → arrs.arrsL ds = ds.flatMap arrs.arr1
  | [] => rfl
  | d :: ds => by simp [arrs.arrsL, arrsL_flatMap ds]

theorem arr1_ids {d : D} {id : Nat} (h : id ∈ arrs.arr1 d) : id ∈ ids d := by
  cases d <;> simp [arrs.arr1, ids] at h ⊢ <;> exact h
theorem arrsL_ids {ds : List D} {id : Nat} (h : id ∈ arrs.arrsL ds) : id ∈ idsL ds := by
  induction ds with
  | nil => simp [arrs.arrsL] at h
  | cons d ds ih =>
    simp only [arrs.arrsL, idsL, List.mem_append] at h ⊢
    exact h.imp arr1_ids ih

section
variable {P : Program} {E : Env} {c : Ctx} {call : CallF}

theorem back_H (c c0 : Ctx) (l : List Nat) (N m i : Nat) : (c.back c0 l N m).H i = if i ∈ l then (c0.H (l.idxOf i)).map (obRen (numb l N)) else if N ≤ i ∧ i < N + m then (c0.H (l.length + (i - N))).map (obRen (numb l N)) else c.H i := rfl

theorem local_nil (hi : Inv E c) : Inv E (c.local_ [] []) ∧ (c.local_ [] []).H = (fun i => ([] : Heap)[i]?) ∧ Picked c [] [] := by
  have hp : Picked c [] [] := ⟨List.nodup_nil, rfl, fun j id h => by simp at h, fun ob h => by simp at h⟩
  exact ⟨local_inv hi hp, rfl, hp⟩

/-- Behind a call that was handed no object and hands back none. -/
theorem quiet_sound (hi : Inv E c) {c0 c1 : Ctx} (hw : c0.w = c.w) (hn : ∀ i, c0.H i = none) (hs : Step c0 c1) : Step c (c.at_ c1.w) ∧ Inv E (c.at_ c1.w) := by
  have hfr : ∀ b, b < c.w.heap.size → c1.w.heap[b]? = c.w.heap[b]? := fun b hb => by
    have := (hs.frame b (by rw [hw]; exact hb) (fun i ob h => by rw [hn] at h; cases h)).1
    rw [this, hw]
  have hle : Le c (c.at_ c1.w) := ⟨fun b o u h k => by
    have hb := World.block_lt_of_cell? c.w _ h
    simp only at hb
    refine ⟨?_, k⟩
    show c1.w.cell? _ = _
    simp only [World.cell?, hfr b hb] at h ⊢
    exact h, fun id ob h => ⟨ob, h, Nat.le_refl _, fun _ => ⟨rfl, rfl, rfl⟩⟩⟩
  have hsz : c.w.heap.size ≤ c1.w.heap.size := by rw [← hw]; exact hs.size
  refine ⟨⟨hle, by rw [← hw]; exact hs.os, by rw [← hw]; exact hs.tape, by rw [← hw]; exact hs.output, hsz, fun b hb _ => ⟨hfr b hb, fun _ => Iff.rfl⟩, fun id ob h => .inl ⟨ob, h, rfl⟩⟩,
    hi.inj, fun b o hb => hi.new b o (Nat.le_trans hsz hb), fun id ob h => ?_, glob_mono hle hi.glob⟩
  have hO := hi.ob id ob h
  obtain ⟨cur, T, fz, h1, _⟩ := hO.blk
  exact hO.move rfl rfl rfl (hfr _ (Array.getElem?_eq_some_iff.1 h1).1) (fun _ => Iff.rfl) hle

theorem pure_call (hcall : CallOK P E call) : PureOK P E call := by
  intro c H plain g args vs n d new hi h hv hH hn
  unfold callPure at h
  split at h
  · cases h
  rename_i args' hview
  split at h
  · cases h
  rename_i hfree
  simp only [Bool.not_eq_true', Bool.not_eq_false] at hfree
  split at h
  case h_2 => cases h
  rename_i d0 H0 hc
  split at h
  case h_2 => cases h
  rename_i d1 H1 hplain
  split at h
  · cases h
  rename_i hflat
  have hl : args.flatMap arrs.arr1 = arrs.arrsL args := (arrsL_flatMap args).symm
  rw [hl] at h hflat
  by_cases hlent : arrs.arrsL args = []
  · -- nothing is lent
    have hv' : RepL c args' vs.toList := viewL_rep hi hview hv (by rw [hlent]; simp)
    obtain ⟨i0, hH0, hp⟩ := local_nil hi
    have hcells : Cells c (c.local_ [] []) := fun b o u h k => ⟨h, k⟩
    have hC := hcall (c.local_ [] []) [] g args' vs _ _ i0 hH0 (RepL.free hcells _ _ hfree hv') hc
    refine CallX.mono hC fun e w' hh => ?_
    obtain ⟨c0, rfl, k1, k2, k3, v, rfl, k4⟩ := hh
    obtain ⟨c1, m1, m2, m3, m4, m5, m6⟩ := plainOut_sound k2 k3 hplain k4
    split at h
    · rename_i hfd
      injection h with h
      simp only [Prod.mk.injEq] at h
      obtain ⟨rfl, rfl⟩ := h
      obtain ⟨b1, b2, b3⟩ := back_sound hi hp (k1.trans m2) m3 m4 (N := n) (m := 0) (by simp) (by omega) (by omega) (fun j ob hj => by simp at hj)
      refine ⟨v, c.back c1 [] n 0, rfl, by rw [← m1]; rfl, b1, b2, ?_, fun i => ?_⟩
      · have hc1 : Cells c1 (c.back c1 [] n 0) := fun b o u h k => ⟨h, k⟩
        exact Rep.free hc1 _ _ hfd m6
      · rw [back_H, if_neg (by simp), if_neg (by omega), if_neg (by simp)]
    · split at h
      case isFalse => cases h
      rename_i hck
      simp only [Bool.and_eq_true, List.all_eq_true, decide_eq_true_eq] at hck
      injection h with h
      simp only [Prod.mk.injEq] at h
      obtain ⟨rfl, rfl⟩ := h
      have hnum : (fun j => n + j) = numb [] n := by funext j; simp [numb]
      obtain ⟨b1, b2, b3⟩ := back_sound hi hp (k1.trans m2) m3 m4 (N := n) (m := H1.length) (by simp) (fun j hj => hn j (by simpa using hj)) (by simp) (fun j ob hj ho id hid => by
        simpa using hck.1.2 ob (List.mem_of_getElem? ho) id hid)
      refine ⟨v, c.back c1 [] n H1.length, rfl, by rw [← m1]; rfl, b1, b2, ?_, fun i => ?_⟩
      · rw [hnum]
        exact b3 d1 v (fun id hid => by simpa using hck.1.1 id hid) m6
      · rw [back_H, if_neg (by simp)]
        by_cases hr : n ≤ i ∧ i < n + H1.length
        · rw [if_pos hr, if_pos (by simpa using hr), hnum, m4]
          simp
        · rw [if_neg hr, if_neg (by simpa using hr)]
  · -- arrays are lent
    obtain ⟨c1, s1, s2, s3, s4, s5, s6, W, s7, s8⟩ := share_sound H (arrs.arrsL args) H hi (fun id hm ob ho => ⟨hH id (arrsL_ids hm) ob ho, by
      obtain ⟨ob', q1, q2⟩ := viewL_arrs hview id hm
      rw [ho] at q1; injection q1 with q1; subst q1; exact q2⟩)
    have hv' : RepL c1 args' vs.toList := viewL_rep s3 hview (hv.mono s2.le) (fun id hm ob ho => by
      rw [s8.at (List.getElem?_eq_some_iff.1 ho).1 ((hH id (arrsL_ids hm) ob ho).trans ho.symm), shareAll_get, if_pos hm, ho]; rfl)
    obtain ⟨i0, hH0, hp⟩ := local_nil s3
    have hcells : Cells c1 (c1.local_ [] []) := fun b o u h k => ⟨h, k⟩
    have hC := hcall (c1.local_ [] []) [] g args' vs _ _ i0 hH0 (RepL.free hcells _ _ hfree hv') hc
    have hw : (c1.local_ [] []).w = c.w := s1
    rw [hw] at hC
    refine CallX.mono hC fun e w' hh => ?_
    obtain ⟨c0, rfl, k1, k2, k3, v, rfl, k4⟩ := hh
    obtain ⟨c2, m1, m2, m3, m4, m5, m6⟩ := plainOut_sound k2 k3 hplain k4
    have hfd : flat d1 = true := by
      cases hq : flat d1
      · exact absurd (by simp [hq, hlent]) hflat
      · rfl
    split at h
    · rename_i hid
      injection h with h
      simp only [Prod.mk.injEq] at h
      obtain ⟨rfl, rfl⟩ := h
      obtain ⟨q1, q2⟩ := quiet_sound hi (c0 := c1.local_ [] []) hw (fun i => by rw [hH0]; simp) (k1.trans m2)
      exact ⟨v, c.at_ c2.w, rfl, m1, q1, q2, Rep.flat _ _ hfd hid m6, New.nil _ _⟩
    · split at h
      · rename_i hck
        simp only [Bool.and_eq_true, List.isEmpty_iff] at hck
        exact absurd hck.2 hlent
      · cases h

/-! ### A call that may write -/
theorem pickObs_get {H : Heap} : {l : List Nat} → {Hc : List Ob} → pickObs H l = some Hc → Hc.length = l.length ∧ ∀ (j id : Nat), l[j]? = some id → ∃ ob : Ob, H[id]? = some ob ∧ Hc[j]? = some ob
  | [], Hc, h => by simp only [pickObs, Option.some.injEq] at h; subst h; exact ⟨rfl, fun j id h => by simp at h⟩
  | a :: l, Hc, h => by
    simp only [pickObs] at h
    split at h
    case h_2 => cases h
    rename_i ob obs h1 h2
    injection h with h
    subst h
    obtain ⟨k1, k2⟩ := pickObs_get h2
    refine ⟨by simp [k1], fun j id hj => ?_⟩
    cases j with
    | zero => simp at hj; subst hj; exact ⟨ob, h1, rfl⟩
    | succ j => simpa using k2 j id (by simpa using hj)

theorem putBack_length : (H : Heap) → (l : List Nat) → (obs : List Ob) → (putBack H l obs).length = H.length
  | H, [], obs => by cases obs <;> rfl
  | H, a :: l, [] => rfl
  | H, a :: l, ob :: obs => by simp only [putBack]; rw [putBack_length _ l obs]; simp

theorem putBack_other : (H : Heap) → (l : List Nat) → (obs : List Ob) → (i : Nat) → i ∉ l → (putBack H l obs)[i]? = H[i]?
  | H, [], obs, i, h => by cases obs <;> rfl
  | H, a :: l, [], i, h => rfl
  | H, a :: l, ob :: obs, i, h => by
    simp only [putBack]
    simp at h
    rw [putBack_other _ l obs i h.2]
    have : a ≠ i := fun e => h.1 e.symm
    simp [List.getElem?_set, this]

theorem putBack_get : (H : Heap) → (l : List Nat) → (obs : List Ob) → l.Nodup → obs.length = l.length → (∀ i ∈ l, i < H.length) → (j i : Nat) → l[j]? = some i → (putBack H l obs)[i]? = obs[j]?
  | H, [], obs, _, _, _, j, i, h => by simp at h
  | H, a :: l, [], _, h, _, _, _, _ => by simp at h
  | H, a :: l, ob :: obs, hn, hl, hlt, j, i, h => by
    simp only [putBack]
    rw [List.nodup_cons] at hn
    cases j with
    | zero =>
      simp at h
      subst h
      rw [putBack_other _ l obs a hn.1]
      have := hlt a (by simp)
      simp [List.getElem?_set, this]
    | succ j =>
      simp at h
      rw [putBack_get _ l obs hn.2 (by simpa using hl) (fun i hi => by simpa using hlt i (by simp [hi])) j i h]
      simp

theorem back_hstep {c c0 : Ctx} {H : Heap} {l : List Nat} {m : Nat} {H0 : Heap} (hn : l.Nodup) (hlt : ∀ i ∈ l, i < H.length) (hH0 : c0.H = fun i => H0[i]?) (hm : l.length + m ≤ H0.length) :
    HStep H (putBack H l ((H0.take l.length).map (obRen (numb l H.length))) ++ ((H0.drop l.length).take m).map (obRen (numb l H.length))) c.H (c.back c0 l H.length m).H l := by
  have hlen : (putBack H l ((H0.take l.length).map (obRen (numb l H.length)))).length = H.length := putBack_length _ _ _
  have hml : (((H0.drop l.length).take m).map (obRen (numb l H.length))).length = m := by simp; omega
  refine ⟨hlt, by rw [List.length_append, hlen]; omega, fun i h1 h2 => ?_, fun i h1 h2 => ?_, fun i h1 h2 => ?_, fun i h1 h2 => ?_⟩
  · have hil : i ∉ l := fun h => by have := hlt i h; omega
    have h2' : i < H.length + m := by rw [List.length_append, hlen, hml] at h2; exact h2
    rw [back_H, if_neg hil, if_pos ⟨h1, h2'⟩, List.getElem?_append_right (by rw [hlen]; exact h1), hlen, List.getElem?_map, List.getElem?_take, if_pos (by omega), List.getElem?_drop, hH0]
  · have hj := getElem_idxOf h1
    have hjl := (List.getElem?_eq_some_iff.1 hj).1
    rw [back_H, if_pos h1, List.getElem?_append_left (by rw [hlen]; exact h2), putBack_get H l _ hn (by simp; omega) hlt _ i hj, List.getElem?_map, List.getElem?_take, if_pos hjl, hH0]
  · rw [List.length_append, hlen, hml] at h2
    rw [back_H, if_neg h1, if_neg h2]
  · rw [List.getElem?_append_left (by rw [hlen]; exact h2), putBack_other _ _ _ _ h1]

end
end Go.Cv
