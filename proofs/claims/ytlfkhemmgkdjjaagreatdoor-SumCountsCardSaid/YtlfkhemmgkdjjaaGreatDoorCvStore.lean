/- A variable, a field, an element written. -/
import Derived.Test.YtlfkhemmgkdjjaaGreatDoorCvMem
set_option linter.unusedSimpArgs false
set_option linter.unusedVariables false
namespace Go.Cv
open Go.RowKit

section
variable {P : Program} {E : Env} {c : Ctx}

theorem row_apart {i k s j o : Nat} (h : i ≠ k) (hj : j < s) (ho : o < s) : i * s + j ≠ k * s + o := by
  intro e
  rcases Nat.lt_or_gt_of_ne h with q | q
  · have := Nat.mul_le_mul_right s (show i + 1 ≤ k from q)
    rw [Nat.add_mul] at this
    omega
  · have := Nat.mul_le_mul_right s (show k + 1 ≤ i from q)
    rw [Nat.add_mul] at this
    omega

/-- What is written stands in the row, what stood beside it stands. -/
theorem setCells_in {w : World} {b o : Nat} {vs : List Value} (hs : ∀ j, j < vs.length → (w.cell? ⟨b, o + j, none⟩).isSome = true) {j : Nat} {v : Value} (hv : vs[j]? = some v) : (w.setCells b o vs).cell? ⟨b, o + j, none⟩ = some v := by
  have hj : j < vs.length := (List.getElem?_eq_some_iff.1 hv).1
  rw [World.cell?_setCells_in b vs o w hs j hj]
  rw [List.getElem?_eq_getElem hj] at hv
  exact hv
theorem setCells_out {w : World} {b o : Nat} {vs : List Value} {q : Nat} (h : q < o ∨ o + vs.length ≤ q) : (w.setCells b o vs).cell? ⟨b, q, none⟩ = w.cell? ⟨b, q, none⟩ := World.cell?_setCells_out b vs o w _ (fun _ _ => h)

theorem store_sound (hi : Inv E c) (hE : EnvOK P E) {H H' : Heap} {t : TypeId} {a d : D} {va vd : Value} (hH : ∀ id ∈ ids a, ∀ ob, H[id]? = some ob → c.H id = some ob)
    (h : storeD E H t a d = some H') (ha : Rep c a va) (hd : Rep c d vd) :
    ∃ c' id ob ob', (Instr.storeAt t va vd).run P c.w = .ok () c'.w ∧ Step c c' ∧ Inv E c' ∧ id ∈ ids a ∧ H[id]? = some ob ∧ H' = H.set id ob' ∧ c'.H = upd c.H id (some ob') := by
  unfold storeD at h
  split at h
  case h_2 => cases h
  rename_i i id n k off hti
  have hti' := hE.ti t i hti
  split at h
  case h_2 => cases h
  rename_i ob hob
  split at h
  case isFalse => cases h
  rename_i hn
  simp only [Bool.and_eq_true, beq_iff_eq, decide_eq_true_eq] at hn
  split at h
  case h_2 => cases h
  rename_i row hrow
  split at h
  case isFalse => cases h
  rename_i hc
  obtain ⟨hc1, hc2, hc3⟩ := hc
  injection h with h
  subst h
  have hcH := hH id (by simp [ids]) ob hob
  have hO := hi.ob id ob hcH
  simp only [Rep] at ha
  obtain ⟨_, ob1, k1, k2, k3⟩ := ha
  rw [hcH] at k1; injection k1 with k1; subst k1
  rw [k3 hn.1.symm]
  obtain ⟨hr1, hr2⟩ := hO.row k row hrow
  obtain ⟨q1, q2⟩ := cells_rep hd hc3
  have hlen : vd.cells.toList.length = i.size := by rw [q1.length]; exact hc1
  have hk : k < ob.xs.length := (List.getElem?_eq_some_iff.1 hrow).1
  obtain ⟨cur, T, fz, b1, b2, b3, _⟩ := hO.blk
  have hroom : k * c.σ id + off + i.size ≤ cur.size := by
    have h1 : (k + 1) * c.σ id ≤ c.κ id * c.σ id := Nat.mul_le_mul_right _ (by have := hO.len; omega)
    rw [Nat.add_mul] at h1
    omega
  have hsome : ∀ j, j < vd.cells.toList.length → (c.w.cell? ⟨c.η id, k * c.σ id + off + j, none⟩).isSome = true := fun j hj => by
    rw [cell?_heap b1]; simp; omega
  refine ⟨c.setOb id ⟨ob.xs.set k (splice row off (cellsOf d)), ob.sh⟩ (k * c.σ id + off) vd.cells.toList, id, ob, ⟨ob.xs.set k (splice row off (cellsOf d)), ob.sh⟩, ?_, ?_⟩
  · have hrun := run_storeCells_cells (P := P) (c.η id) (k * c.σ id + off) vd.cells.toList 0 c.w (fun j hj => by simpa using hsome j hj) (fun j hj => by
      have := b3 (k * c.σ id + off + j) (by omega); simpa using this) q2
    simp only [Nat.add_zero] at hrun
    have hsz : vd.cells.size = i.size := by simpa using hlen
    simp [Instr.storeAt, Instr.sureAddr, storeVar, sizeOf_run hti', hsz, hrun]
    rfl
  · have hst := step_setOb hi (ob' := ⟨ob.xs.set k (splice row off (cellsOf d)), ob.sh⟩) hcH rfl (by simp) (by simpa using hO.len) (o := k * c.σ id + off) (vs := vd.cells.toList)
      (by have := Nat.mul_le_mul_right (c.σ id) hn.2; omega)
      (fun r x hx => by
        by_cases e : r = k
        · subst e
          have : x = splice row off (cellsOf d) := by
            simp only [List.getElem?_set, if_true] at hx
            rw [if_pos hk] at hx
            injection hx with hx; exact hx.symm
          subst this
          refine ⟨by simp [splice]; omega, fun j y hy => ?_⟩
          unfold splice at hy
          rcases Nat.lt_or_ge j off with g | g
          · rw [List.append_assoc, List.getElem?_append_left (by simp; omega), List.getElem?_take, if_pos g] at hy
            obtain ⟨m1, u, m2, m3⟩ := hr2 j y hy
            exact ⟨m1, u, by rw [setCells_out (.inl (by omega))]; exact m2, m3⟩
          · rcases Nat.lt_or_ge j (off + i.size) with g2 | g2
            · rw [List.getElem?_append_left (by simp; omega), List.getElem?_append_right (by simp; omega)] at hy
              have e1 : (row.take off).length = off := by simp; omega
              rw [e1] at hy
              obtain ⟨u, m2, m3⟩ := q1.get _ _ hy
              refine ⟨List.all_eq_true.1 hc3 _ (List.mem_of_getElem? hy), u, ?_, m3⟩
              have := setCells_in hsome m2
              rwa [show r * c.σ id + off + (j - off) = r * c.σ id + j by omega] at this
            · rw [List.getElem?_append_right (by simp; omega), List.getElem?_drop] at hy
              have e1 : (row.take off ++ cellsOf d).length = off + i.size := by simp; omega
              rw [e1, hc1] at hy
              rw [show off + i.size + (j - (off + i.size)) = j by omega] at hy
              obtain ⟨m1, u, m2, m3⟩ := hr2 j y hy
              exact ⟨m1, u, by rw [setCells_out (.inr (by omega))]; exact m2, m3⟩
        · have hx' : ob.xs[r]? = some x := by
            simp only [List.getElem?_set, if_neg (Ne.symm e)] at hx; exact hx
          obtain ⟨m0, m1⟩ := hO.row r x hx'
          refine ⟨m0, fun j y hy => ?_⟩
          obtain ⟨m2, u, m3, m4⟩ := m1 j y hy
          have hj : j < c.σ id := by have := (List.getElem?_eq_some_iff.1 hy).1; omega
          refine ⟨m2, u, ?_, m4⟩
          rw [setCells_out]
          · exact m3
          · rcases Nat.lt_or_ge (r * c.σ id + j) (k * c.σ id + off) with g | g
            · exact .inl g
            · right
              rcases Nat.lt_or_ge (r * c.σ id + j) (k * c.σ id + off + vd.cells.toList.length) with g2 | g2
              · exfalso
                exact row_apart (s := c.σ id) (o := r * c.σ id + j - k * c.σ id) e hj (by omega) (by omega)
              · exact g2)
      (fun r x hx hs => by
        have hs' : r < ob.sh := hs
        have hx' : ob.xs[r]? = some x := by
          have : r ≠ k := by omega
          simp only [List.getElem?_set, if_neg (Ne.symm this)] at hx; exact hx
        exact hO.shd r x hx' hs')
    exact ⟨hst.1, hst.2, by simp [ids], hob, rfl, rfl⟩

end
end Go.Cv
