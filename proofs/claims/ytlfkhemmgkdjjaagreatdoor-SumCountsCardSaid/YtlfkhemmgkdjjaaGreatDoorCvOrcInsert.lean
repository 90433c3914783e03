/- slices.Insert of one element ahead of another one. -/
import Derived.Test.YtlfkhemmgkdjjaaGreatDoorCvOrcBase
import Derived.Test.YtlfkhemmgkdjjaaGreatDoorCvInsert
set_option linter.unusedSimpArgs false
set_option linter.unusedVariables false
namespace Go.Cv
open Go.RowKit

def lenAll (sz : Nat) : List (List D) → Bool
  | [] => true
  | x :: xs => Nat.beq x.length sz && lenAll sz xs

theorem lenAll_spec {sz : Nat} {xs : List (List D)} (h : lenAll sz xs = true) : ∀ x ∈ xs, x.length = sz := by
  induction xs with
  | nil => simp
  | cons y ys ih =>
    simp only [lenAll, Bool.and_eq_true] at h
    intro x hx
    rcases List.mem_cons.1 hx with rfl | hx
    · exact Nat.eq_of_beq_eq_true h.1
    · exact ih h.2 x hx

/-- One element into an object, ahead of another one. -/
def orcInsert (args : List D) (H : Heap) : Option (Out × Heap) := match args with
  | [.arr id n, .int .i64 i, .slc [y]] => match H[id]? with
    | some ob => if ob.xs.length = n ∧ 0 ≤ i ∧ i.toNat < n ∧ ob.sh = 0 ∧ y.length = 5 ∧ (n + 1) * 72 ≤ 140737488355328 ∧ lenAll 5 ob.xs = true then
        some (.ret (.arr id (n + 1)), H.set id ⟨ob.xs.take i.toNat ++ y :: ob.xs.drop i.toNat, 0⟩) else none
    | none => none
  | _ => none

section
variable {P : Program} {E : Env} {c : Ctx}

theorem one_cell {d : D} {v : Value} (h : Rep c d v) (hl : leaf d = true) : v.oneCell' = true := by
  have hd : cellsOf d = [d] := by cases d <;> simp_all [cellsOf, leaf]
  have hk := (cells_rep h (by rw [hd]; simp [hl])).2
  obtain ⟨h1, h2⟩ := h.leaf hl
  have hv : v.cells.toList = [v] := by
    cases v <;> simp_all [Value.cells]
  exact hk v (by rw [hv]; simp)

theorem setCells_alloc (T : TypeId) : (vs : List Value) → (o : Nat) → (w : World) → (cur : Array Value) → ∃ cur', (w.alloc (.cells cur T)).setCells w.heap.size o vs = w.alloc (.cells cur' T) ∧ cur'.size = cur.size
  | [], _, w, cur => ⟨cur, rfl, rfl⟩
  | v :: vs, o, w, cur => by
    obtain ⟨cur', h1, h2⟩ := setCells_alloc T vs (o + 1) w (cur.setIfInBounds o v)
    refine ⟨cur', ?_, by simpa using h2⟩
    rw [World.setCells, World.setCell_alloc_at _ _ _ _ _ rfl]
    exact h1

theorem HSet {H : Heap} {id : Nat} {ob ob' : Ob} (h : H[id]? = some ob) : (fun i => (H.set id ob')[i]?) = upd (fun i => H[i]?) id (some ob') := by
  funext i
  have hlt := (List.getElem?_eq_some_iff.1 h).1
  by_cases e : i = id
  · subst e; rw [upd_same]; simp [hlt]
  · rw [upd_ne _ _ e, List.getElem?_set_ne (fun x => e x.symm)]

theorem insert_ok : OrcFor Go.Proofs.Tryz.prog E 156 orcInsert := by
  intro c H args vs out H' hi hH hv h
  unfold orcInsert at h
  split at h
  case h_2 => cases h
  rename_i id n i y
  split at h
  case h_2 => cases h
  rename_i ob hob
  split at h
  case isFalse => cases h
  rename_i hc
  obtain ⟨hn, hi0, hin, hsh, hy, hbig, hall⟩ := hc
  injection h with h
  simp only [Prod.mk.injEq] at h
  obtain ⟨rfl, rfl⟩ := h
  obtain ⟨k, rfl⟩ : ∃ k : Nat, i = k := ⟨i.toNat, by omega⟩
  simp only [Int.toNat_natCast] at hin ⊢
  obtain ⟨v1, v2, v3, rfl, r1, r2, r3⟩ := rep_three hv
  have hcH : c.H id = some ob := by rw [hH]; exact hob
  simp only [Rep] at r1 r2 r3
  obtain ⟨_, ob1, e1, _, r1⟩ := r1
  rw [hcH] at e1; injection e1 with e1; subst e1
  have hv1 := r1 hn.symm
  subst hv1; subst r2
  obtain ⟨a, len, vc, rfl, k1, k2, k3, k4⟩ := r3
  simp only [List.length_cons, List.length_nil] at k1
  subst k1
  rcases k4 with k4 | ⟨vb, vo, sz, rfl, k4⟩
  · simp at k4
  simp only [RepRows] at k4
  obtain ⟨hysz, hycells, _⟩ := k4
  rw [hy] at hysz
  subst hysz
  -- the object
  have hO := hi.ob id ob hcH
  have hrows := lenAll_spec hall
  have hx0 : ∃ x, ob.xs[0]? = some x := by rw [List.getElem?_eq_getElem (by omega)]; exact ⟨_, rfl⟩
  obtain ⟨x0, hx0⟩ := hx0
  have hσ : c.σ id = 5 := by rw [← (hO.row 0 x0 hx0).1]; exact hrows x0 (List.mem_of_getElem? hx0)
  obtain ⟨cur, T, fz, b1, b2, b3, rfl⟩ := hO.blk
  rw [hσ] at b2
  have hlen := hO.len
  have hcap := hO.cap
  have hcell : ∀ o, c.w.cell? ⟨c.η id, o, none⟩ = cur[o]? := fun o => by simp [World.cell?, b1]
  have hfr : ∀ o, c.w.frozen? ⟨c.η id, o, none⟩ = false := fun o => by simp [World.frozen?, b1]
  have hsz5 : n * 5 ≤ cur.size := by
    have := Nat.mul_le_mul_right 5 hlen
    omega
  -- its cells
  obtain ⟨cs, hcs⟩ : ∃ cs : List Value, cs = cur.toList.take (n * 5) := ⟨_, rfl⟩
  have hcl : cs.length = n * 5 := by rw [hcs, List.length_take]; simp; omega
  have hcsg : ∀ j, j < n * 5 → cs[j]? = cur[j]? := fun j hj => by rw [hcs, List.getElem?_take, if_pos hj]; simp
  have hcsc : ∀ j v, cs[j]? = some v → c.w.cell? ⟨c.η id, j, none⟩ = some v := fun j v hj => by
    have hlt := (List.getElem?_eq_some_iff.1 hj).1
    rw [hcell, ← hcsg j (by omega)]; exact hj
  have hrowd : ∀ j v, cs[j]? = some v → ∃ d, leaf d = true ∧ Rep c d v := fun j v hj => by
    have hlt := (List.getElem?_eq_some_iff.1 hj).1
    have hr : j / 5 < ob.xs.length := by omega
    obtain ⟨h1, h2⟩ := hO.row (j / 5) ob.xs[j / 5] (List.getElem?_eq_getElem hr)
    rw [hσ] at h1
    have hm : j % 5 < (ob.xs[j / 5]).length := by rw [h1]; omega
    obtain ⟨h3, u, h4, h5⟩ := h2 (j % 5) _ (List.getElem?_eq_getElem hm)
    rw [hσ, show j / 5 * 5 + j % 5 = j by omega, hcsc j v hj] at h4
    injection h4 with h4
    subst h4
    exact ⟨_, h3, h5⟩
  have h1c : ∀ v ∈ cs, v.oneCell' = true := fun v hv => by
    obtain ⟨j, hj⟩ := List.mem_iff_getElem?.1 hv
    obtain ⟨d, h1, h2⟩ := hrowd j v hj
    exact one_cell h2 h1
  -- the new row's cells
  have hyc : ∀ j, j < 5 → ∃ d u, y[j]? = some d ∧ idFree d = true ∧ leaf d = true ∧ c.w.cell? ⟨vb, vo + j, none⟩ = some u ∧ ¬ c.R vb (vo + j) ∧ Rep c d u := fun j hj => by
    have hd : y[j]? = some y[j] := List.getElem?_eq_getElem (by omega)
    obtain ⟨h1, h2, u, h3, h4, h5⟩ := hycells.get j _ hd
    exact ⟨_, u, hd, h1, h2, h3, h4, h5⟩
  obtain ⟨vs, hvs⟩ : ∃ vs : List Value, vs = (List.range 5).map fun j => (c.w.cell? ⟨vb, vo + j, none⟩).getD undef := ⟨_, rfl⟩
  have hvl : vs.length = 5 := by rw [hvs]; simp
  have hvg : ∀ j v, vs[j]? = some v → c.w.cell? ⟨vb, vo + j, none⟩ = some v := fun j v hj => by
    have hlt := (List.getElem?_eq_some_iff.1 hj).1
    rw [hvl] at hlt
    obtain ⟨d, u, _, _, _, h3, _⟩ := hyc j hlt
    rw [hvs] at hj
    simp [hlt, h3] at hj
    rw [h3, hj]
  have hyv : ∀ j d, y[j]? = some d → ∃ u, vs[j]? = some u ∧ leaf d = true ∧ Rep c d u := fun j d hd => by
    have hlt := (List.getElem?_eq_some_iff.1 hd).1
    obtain ⟨d', u, h1, _, h2, h3, _, h5⟩ := hyc j (by omega)
    rw [hd] at h1; injection h1 with h1; subst h1
    have hj5 : j < 5 := by omega
    have hgoal : vs[j]? = some u := by
      rw [hvs, List.getElem?_map, List.getElem?_range hj5]
      simp only [Option.map_some, h3, Option.getD_some]
    exact ⟨u, hgoal, h2, h5⟩
  have h1v : ∀ v ∈ vs, v.oneCell' = true := fun v hv => by
    obtain ⟨j, hj⟩ := List.mem_iff_getElem?.1 hv
    have hlt := (List.getElem?_eq_some_iff.1 hj).1
    rw [hvl] at hlt
    obtain ⟨d, u, h1, _, h2, h3, _, h5⟩ := hyc j hlt
    rw [hvg j v hj] at h3; injection h3 with h3; subst h3
    exact one_cell h5 h2
  have hvb : vb ≠ c.η id := by
    obtain ⟨d, u, _, _, _, _, h4, _⟩ := hyc 0 (by omega)
    rintro rfl
    exact h4 (hO.res _ (by rw [hsh]; omega))
  have hxl : (ob.xs.take k ++ y :: ob.xs.drop k).length = n + 1 := by simp; omega
  have hxrow : ∀ x ∈ ob.xs.take k ++ y :: ob.xs.drop k, x.length = 5 := fun x hx => by
    rcases List.mem_append.1 hx with h | h
    · exact hrows x (List.mem_of_mem_take h)
    · rcases List.mem_cons.1 h with rfl | h
      · exact hy
      · exact hrows x (List.mem_of_mem_drop h)
  have hcb : Callable Go.Proofs.Tryz.prog 156 := ⟨_, Go.Proofs.Tryz.func156, by kernel_rfl, by kernel_rfl⟩
  refine .inl ⟨hcb, ?_⟩
  rcases Nat.lt_or_ge n (c.κ id) with hroom | hroom
  · -- there is room
    have hk5 : (n + 1) * 5 ≤ cur.size := by
      have := Nat.mul_le_mul_right 5 hroom
      omega
    have hc63 : c.κ id ≤ 9223372036854775807 := by unfold maxLen at hcap; omega
    obtain ⟨tA, kA, hsa, hkA⟩ : ∃ tA kA, c.w.shape? vb = some (tA, kA) ∧ kA ≠ 0 := by
      obtain ⟨d, u, _, _, _, h3, _, _⟩ := hyc 0 (by omega)
      unfold World.cell? at h3
      unfold World.shape?
      cases hb : c.w.heap[vb]? with
      | none => rw [hb] at h3; simp at h3
      | some o =>
        rw [hb] at h3
        cases o with
        | cells cc tt ff =>
          refine ⟨tt, cc.size, rfl, fun e => ?_⟩
          have : cc = #[] := Array.eq_empty_of_size_eq_zero e
          subst this
          simp at h3
        | _ => simp at h3
    have hsb : c.w.shape? (c.η id) = some (T, cur.size) := by unfold World.shape?; rw [b1]
    have hC := Go.Proofs.Tryz.insert_shift (c.η id) n (c.κ id) k vb vo vc cs vs c.w hin hroom hc63 hvb hcl hvl hcsc (fun j hj => by rw [hcell, Array.getElem?_eq_getElem (by omega)]; rfl) hfr hvg h1c h1v tA T kA cur.size hsa hkA hsb (by omega)
    refine hC.mono fun e w' hh => ?_
    obtain ⟨rfl, rfl⟩ := hh
    obtain ⟨s1, i1⟩ := step_drew hi
    obtain ⟨c1, hc1⟩ : ∃ c1, c1 = c.at_ c.w.drew := ⟨_, rfl⟩
    rw [← hc1] at s1 i1
    have hw1 : c1.w = c.w.drew := by rw [hc1]; rfl
    have hη1 : c1.η = c.η := by rw [hc1]; rfl
    have hκ1 : c1.κ = c.κ := by rw [hc1]; rfl
    have hσ1 : c1.σ = c.σ := by rw [hc1]; rfl
    have hH1 : c1.H = c.H := by rw [hc1]; rfl
    have hcell1 : ∀ x, c1.w.cell? x = c.w.cell? x := fun x => by rw [hw1]; rfl
    have hdl : (cs.drop (k * 5)).length = (n - k) * 5 := by rw [List.length_drop, hcl]; omega
    have hsome : ∀ j, j < (cs.drop (k * 5)).length → (c1.w.cell? ⟨c.η id, (k + 1) * 5 + j, none⟩).isSome = true := fun j hj => by
      rw [hdl] at hj
      rw [hcell1, hcell, Array.getElem?_eq_getElem (by omega)]; rfl
    -- the elements behind are moved on
    have hst2 := step_setOb (c := c1) i1 (id := id) (ob := ob) (ob' := ⟨ob.xs.take (k + 1) ++ ob.xs.drop k, 0⟩) (by rw [hH1]; exact hcH) (by rw [hsh]) (by simp; omega) (by rw [hκ1]; simp; omega)
      (o := (k + 1) * 5) (vs := cs.drop (k * 5)) (by rw [hsh]; omega)
      (fun m x hx => by
        rw [hη1, hσ1, hσ]
        have hx' : (ob.xs.take (k + 1) ++ ob.xs.drop k)[m]? = some x := hx
        rw [List.getElem?_append] at hx'
        split at hx'
        · rename_i hm
          rw [List.length_take] at hm
          rw [List.getElem?_take, if_pos (by omega)] at hx'
          obtain ⟨q1, q2⟩ := hO.row m x hx'
          rw [hσ] at q1 q2
          refine ⟨q1, fun j d hd => ?_⟩
          obtain ⟨q3, u, q4, q5⟩ := q2 j d hd
          have hj5 := (List.getElem?_eq_some_iff.1 hd).1
          rw [q1] at hj5
          refine ⟨q3, u, ?_, q5.mono s1.le⟩
          rw [setCells_out (.inl (by omega)), hcell1]
          exact q4
        · rename_i hm
          rw [List.length_take] at hm
          have hm' : ob.xs[m - 1]? = some x := by
            rw [List.getElem?_drop] at hx'
            rw [← hx']; congr 1; simp; omega
          obtain ⟨q1, q2⟩ := hO.row (m - 1) x hm'
          rw [hσ] at q1 q2
          refine ⟨q1, fun j d hd => ?_⟩
          obtain ⟨q3, u, q4, q5⟩ := q2 j d hd
          have hj5 := (List.getElem?_eq_some_iff.1 hd).1
          rw [q1] at hj5
          have hmlt := (List.getElem?_eq_some_iff.1 hm').1
          refine ⟨q3, u, ?_, q5.mono s1.le⟩
          have e1 : m * 5 + j = (k + 1) * 5 + ((m - 1 - k) * 5 + j) := by omega
          rw [e1]
          refine setCells_in hsome ?_
          rw [List.getElem?_drop, show k * 5 + ((m - 1 - k) * 5 + j) = (m - 1) * 5 + j by omega, hcsg _ (by omega), ← hcell]
          exact q4)
      (fun m x _ hm => by simp at hm)
    obtain ⟨s2, i2⟩ := hst2
    obtain ⟨c2, hc2⟩ : ∃ c2, c2 = c1.setOb id ⟨ob.xs.take (k + 1) ++ ob.xs.drop k, 0⟩ ((k + 1) * 5) (cs.drop (k * 5)) := ⟨_, rfl⟩
    rw [← hc2] at s2 i2
    have hw2 : c2.w = c.w.drew.setCells (c.η id) ((k + 1) * 5) (cs.drop (k * 5)) := by rw [hc2, ← hw1, ← hη1]; rfl
    have hη2 : c2.η = c.η := by rw [hc2, ← hη1]; rfl
    have hκ2 : c2.κ = c.κ := by rw [hc2, ← hκ1]; rfl
    have hσ2 : c2.σ = c.σ := by rw [hc2, ← hσ1]; rfl
    have hH2 : c2.H = upd c.H id (some ⟨ob.xs.take (k + 1) ++ ob.xs.drop k, 0⟩) := by rw [hc2, ← hH1]; rfl
    have hO2 := i2.ob id ⟨ob.xs.take (k + 1) ++ ob.xs.drop k, 0⟩ (by rw [hH2, upd_same])
    have hsome2 : ∀ j, j < vs.length → (c2.w.cell? ⟨c.η id, k * 5 + j, none⟩).isSome = true := fun j hj => by
      rw [hvl] at hj
      have hr : k < (ob.xs.take (k + 1) ++ ob.xs.drop k).length := by simp; omega
      obtain ⟨q1, q2⟩ := hO2.row k _ (List.getElem?_eq_getElem hr)
      rw [hσ2, hσ] at q1 q2
      rw [hη2] at q2
      obtain ⟨_, u, q4, _⟩ := q2 j _ (List.getElem?_eq_getElem (by rw [q1]; exact hj))
      rw [q4]; rfl
    have hst3 := step_setOb (c := c2) i2 (id := id) (ob := ⟨ob.xs.take (k + 1) ++ ob.xs.drop k, 0⟩) (ob' := ⟨ob.xs.take k ++ y :: ob.xs.drop k, 0⟩) (by rw [hH2, upd_same]) rfl (by simp; omega) (by rw [hκ2]; simp; omega)
      (o := k * 5) (vs := vs) (by simp)
      (fun m x hx => by
        rw [hη2, hσ2, hσ]
        have hx' : (ob.xs.take k ++ y :: ob.xs.drop k)[m]? = some x := hx
        refine ⟨hxrow x (List.mem_of_getElem? hx'), fun j d hd => ?_⟩
        have hj5 := (List.getElem?_eq_some_iff.1 hd).1
        rw [hxrow x (List.mem_of_getElem? hx')] at hj5
        by_cases hm : m = k
        · subst hm
          have hxy : x = y := by
            rw [List.getElem?_append_right (by rw [List.length_take]; omega), List.length_take, show m - min m ob.xs.length = 0 by omega] at hx'
            simpa using hx'.symm
          subst hxy
          obtain ⟨u, q1, q2, q3⟩ := hyv j d hd
          exact ⟨q2, u, setCells_in hsome2 q1, (q3.mono s1.le).mono s2.le⟩
        · have hx2 : (ob.xs.take (k + 1) ++ ob.xs.drop k)[m]? = some x := by
            rcases Nat.lt_or_ge m k with g | g
            · rw [List.getElem?_append_left (by simp; omega), List.getElem?_take, if_pos g] at hx'
              rw [List.getElem?_append_left (by simp; omega), List.getElem?_take, if_pos (by omega)]
              exact hx'
            · rw [List.getElem?_append_right (by simp; omega), List.length_take, show m - min k ob.xs.length = (m - k - 1) + 1 by omega, List.getElem?_cons_succ] at hx'
              rw [List.getElem?_append_right (by simp; omega), List.length_take, show m - min (k + 1) ob.xs.length = m - k - 1 by omega]
              exact hx'
          obtain ⟨q1, q2⟩ := hO2.row m x hx2
          rw [hσ2, hσ, hη2] at q2
          obtain ⟨q3, u, q4, q5⟩ := q2 j d hd
          refine ⟨q3, u, ?_, q5⟩
          rw [setCells_out (by rw [hvl]; omega)]
          exact q4)
      (fun m x _ hm => by simp at hm)
    obtain ⟨s3, i3⟩ := hst3
    refine ⟨_, ?_, (s1.trans s2).trans s3, i3, ?_, _, rfl, ?_⟩
    · show c2.w.setCells (c2.η id) (k * 5) vs = _
      rw [hw2, hη2]
    · show upd c2.H id _ = _
      rw [hH2, HSet hob, ← hH]
      funext q
      by_cases e : q = id
      · subst e; rw [upd_same, upd_same]
      · rw [upd_ne _ _ e, upd_ne _ _ e, upd_ne _ _ e]
    · simp only [Rep]
      refine ⟨⟨_, _, _, rfl⟩, ⟨ob.xs.take k ++ y :: ob.xs.drop k, 0⟩, ?_, by show n + 1 ≤ (ob.xs.take k ++ y :: ob.xs.drop k).length; omega, fun _ => ?_⟩
      · show upd c2.H id _ id = _
        rw [upd_same]
      · show _ = Value.slice (some ⟨c2.η id, 0, none⟩) (n + 1) (c2.κ id)
        rw [hη2, hκ2]
  · -- a new row
    have hκn : c.κ id = n := by omega
    have hC := Go.Proofs.Tryz.insert_grow (c.η id) n (c.κ id) k vb vo vc cs vs c.w hin (by omega) (by omega) hbig hcl hvl hcsc hvg h1c h1v
    refine hC.mono fun e w' hh => ?_
    obtain ⟨rfl, ROW, hRs, hRt, rfl⟩ := hh
    obtain ⟨G, hG⟩ : ∃ G, G = grownCap c.w (n + 1) (c.κ id) 243 := ⟨_, rfl⟩
    rw [← hG] at hRs ⊢
    obtain ⟨g1, g2⟩ := grownCap_bounds c.w (need := n + 1) (old := c.κ id) 243 (by omega)
    rw [← hG] at g1 g2
    have hdl : (cs.drop (k * 5)).length = (n - k) * 5 := by rw [List.length_drop, hcl]; omega
    obtain ⟨cur1, a1, a2⟩ := setCells_alloc 243 vs (k * 5) c.w ROW
    obtain ⟨cur2, a3, a4⟩ := setCells_alloc 243 (cs.drop (k * 5)) ((k + 1) * 5) c.w cur1
    have hW : (((c.w.alloc (.cells ROW 243)).drew.setCells c.w.heap.size (k * 5) vs).drew).setCells c.w.heap.size ((k + 1) * 5) (cs.drop (k * 5)) = (c.w.alloc (.cells cur2 243)).drew.drew := by
      rw [← Go.Proofs.drew_setCells, ← Go.Proofs.drew_setCells, ← Go.Proofs.drew_setCells, a1, a3]
    -- what lies there
    have e0 : ∀ j, (c.w.alloc (.cells ROW 243)).cell? ⟨c.w.heap.size, j, none⟩ = ROW[j]? := fun j => cell_alloc_new _ _ _ _
    have some0 : ∀ j, j < vs.length → ((c.w.alloc (.cells ROW 243)).cell? ⟨c.w.heap.size, k * 5 + j, none⟩).isSome = true := fun j hj => by
      rw [e0, Array.getElem?_eq_getElem (by rw [hRs]; omega)]; rfl
    have e1 : ∀ j, (c.w.alloc (.cells cur1 243)).cell? ⟨c.w.heap.size, j, none⟩ = cur1[j]? := fun j => cell_alloc_new _ _ _ _
    have some1 : ∀ j, j < (cs.drop (k * 5)).length → ((c.w.alloc (.cells cur1 243)).cell? ⟨c.w.heap.size, (k + 1) * 5 + j, none⟩).isSome = true := fun j hj => by
      rw [hdl] at hj
      rw [e1, Array.getElem?_eq_getElem (by rw [a2, hRs]; omega)]; rfl
    have e2 : ∀ j, cur2[j]? = ((c.w.alloc (.cells cur1 243)).setCells c.w.heap.size ((k + 1) * 5) (cs.drop (k * 5))).cell? ⟨c.w.heap.size, j, none⟩ := fun j => by rw [a3]; exact (cell_alloc_new _ _ _ _).symm
    have e3 : ∀ j, cur1[j]? = ((c.w.alloc (.cells ROW 243)).setCells c.w.heap.size (k * 5) vs).cell? ⟨c.w.heap.size, j, none⟩ := fun j => by rw [a1]; exact (cell_alloc_new _ _ _ _).symm
    have hst := step_newOb hi (n := id) (ob := ⟨ob.xs.take k ++ y :: ob.xs.drop k, 0⟩) (cur := cur2) (T := 243) (cap := G) (sz := 5)
      (fun ob0 h0 => by rw [hcH] at h0; injection h0 with h0; subst h0; show ob.xs.length < (ob.xs.take k ++ y :: ob.xs.drop k).length; omega)
      (by simp) (fun _ _ _ hm => by simp at hm) (fun e => by have : (ob.xs.take k ++ y :: ob.xs.drop k) = [] := e; rw [this] at hxl; simp at hxl)
      (by show (ob.xs.take k ++ y :: ob.xs.drop k).length ≤ G; omega) g2 (by rw [a4, a2, hRs]; exact Nat.le_refl _)
      (fun m x hx => by
        have hx' : (ob.xs.take k ++ y :: ob.xs.drop k)[m]? = some x := hx
        refine ⟨hxrow x (List.mem_of_getElem? hx'), fun j d hd => ?_⟩
        have hj5 := (List.getElem?_eq_some_iff.1 hd).1
        rw [hxrow x (List.mem_of_getElem? hx')] at hj5
        rw [e2]
        rcases Nat.lt_trichotomy m k with g | g | g
        · rw [List.getElem?_append_left (by simp; omega), List.getElem?_take, if_pos g] at hx'
          obtain ⟨q1, q2⟩ := hO.row m x hx'
          rw [hσ] at q2
          obtain ⟨q3, u, q4, q5⟩ := q2 j d hd
          refine ⟨q3, u, ?_, q5⟩
          rw [setCells_out (.inl (by omega)), e1, e3, setCells_out (.inl (by omega)), e0, hRt _ (by omega), hcsg _ (by omega), ← hcell]
          exact q4
        · subst g
          have hxy : x = y := by
            rw [List.getElem?_append_right (by rw [List.length_take]; omega), List.length_take, show m - min m ob.xs.length = 0 by omega] at hx'
            simpa using hx'.symm
          subst hxy
          obtain ⟨u, q1, q2, q3⟩ := hyv j d hd
          refine ⟨q2, u, ?_, q3⟩
          rw [setCells_out (.inl (by omega)), e1, e3]
          exact setCells_in some0 q1
        · have hx2 : ob.xs[m - 1]? = some x := by
            rw [List.getElem?_append_right (by simp; omega), List.length_take, show m - min k ob.xs.length = (m - k - 1) + 1 by omega, List.getElem?_cons_succ, List.getElem?_drop] at hx'
            rw [← hx']; congr 1; omega
          obtain ⟨q1, q2⟩ := hO.row (m - 1) x hx2
          rw [hσ] at q2
          obtain ⟨q3, u, q4, q5⟩ := q2 j d hd
          have hmlt := (List.getElem?_eq_some_iff.1 hx2).1
          refine ⟨q3, u, ?_, q5⟩
          rw [show m * 5 + j = (k + 1) * 5 + ((m - 1 - k) * 5 + j) by omega]
          refine setCells_in some1 ?_
          rw [List.getElem?_drop, show k * 5 + ((m - 1 - k) * 5 + j) = (m - 1) * 5 + j by omega, hcsg _ (by omega), ← hcell]
          exact q4)
    obtain ⟨s1, i1⟩ := hst
    obtain ⟨s2, i2⟩ := step_drew i1
    obtain ⟨s3, i3⟩ := step_drew i2
    refine ⟨_, ?_, (s1.trans s2).trans s3, i3, ?_, _, rfl, ?_⟩
    · rw [hW]; rfl
    · show upd c.H id _ = _
      rw [HSet hob, ← hH]
    · simp only [Rep]
      refine ⟨⟨_, _, _, rfl⟩, ⟨ob.xs.take k ++ y :: ob.xs.drop k, 0⟩, ?_, by show n + 1 ≤ (ob.xs.take k ++ y :: ob.xs.drop k).length; omega, fun _ => ?_⟩
      · show upd c.H id _ id = _
        rw [upd_same]
      · show _ = Value.slice (some ⟨upd c.η id c.w.heap.size id, 0, none⟩) (n + 1) (upd c.κ id G id)
        rw [upd_same, upd_same]
end
end Go.Cv
