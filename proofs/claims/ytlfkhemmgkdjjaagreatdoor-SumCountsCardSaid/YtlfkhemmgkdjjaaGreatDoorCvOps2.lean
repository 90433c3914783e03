/- More operations that leave the world alone: cuts, places, parts, lengths. -/
import Derived.Test.YtlfkhemmgkdjjaaGreatDoorCvOps1
set_option linter.unusedSimpArgs false
set_option linter.unusedVariables false
namespace Go.Cv
open Go.RowKit

section
variable {P : Program} {E : Env} {c : Ctx}

/-! ### Cuts -/
/-- A bound, as it is told, as it is. -/
def Bound (d : Option D) (v : Option Value) : Prop := (d = none ∧ v = none) ∨ ∃ x u, d = some x ∧ v = some u ∧ Rep c x u

theorem bound_run {d : Option D} {v : Option Value} (h : Bound (c := c) d v) {dflt n : Nat} (hb : boundD d dflt = some n) :
    (d = none ∧ v = none ∧ n = dflt) ∨ ∃ k x, d = some (.int k x) ∧ v = some (.int k x) ∧ 0 ≤ x ∧ n = x.toNat := by
  rcases h with ⟨rfl, rfl⟩ | ⟨x, u, rfl, rfl, hr⟩
  · left; simp only [boundD, Option.some.injEq] at hb; exact ⟨rfl, rfl, hb.symm⟩
  · right
    simp only [boundD] at hb
    split at hb
    · rename_i heq; cases heq
    · rename_i k x heq
      injection heq with heq
      subst heq
      simp only [Rep] at hr
      subst hr
      split at hb
      · rename_i h0; injection hb with hb; exact ⟨k, x, rfl, rfl, h0, hb.symm⟩
      · cases hb
    · cases hb

theorem sliceBounds_run {lo hi mx : Option D} {vlo vhi vmx : Option Value} (hlo : Bound (c := c) lo vlo) (hhi : Bound (c := c) hi vhi) (hmx : Bound (c := c) mx vmx)
    {isS : Bool} {len cap dm l h m : Nat} (hm : boundD mx dm = some m) (hh : boundD hi len = some h) (hl : boundD lo 0 = some l) (hlh : l ≤ h) (hhm : h ≤ m) (hmc : m ≤ cap) (hnn : mx ≠ none → hi ≠ none) (hlc : len ≤ cap) :
    (Instr.sliceBounds isS len cap vlo vhi vmx).run P c.w = .ok (l, h, if vmx = none then cap else m) c.w := by
  unfold Instr.sliceBounds
  rcases bound_run hmx hm with ⟨rfl, rfl, e⟩ | ⟨k1, x1, rfl, rfl, p1, e1⟩
  · rcases bound_run hhi hh with ⟨rfl, rfl, e2⟩ | ⟨k2, x2, rfl, rfl, p2, e2⟩
    · rcases bound_run hlo hl with ⟨rfl, rfl, e3⟩ | ⟨k3, x3, rfl, rfl, p3, e3⟩
      · simp [e2, e3]
      · have r3 := fun code => run_sliceBound (P := P) c.w k3 x3 len code p3 (by omega)
        simp only [Sem.run_bind, Sem.run_pure, Result.andThen_ok, r3]; simp [e2, e3]
    · have r2 := fun code => run_sliceBound (P := P) c.w k2 x2 cap code p2 (by omega)
      rcases bound_run hlo hl with ⟨rfl, rfl, e3⟩ | ⟨k3, x3, rfl, rfl, p3, e3⟩
      · simp only [Sem.run_bind, Sem.run_pure, Result.andThen_ok, r2]; simp [e2, e3]
      · have r3 := fun code => run_sliceBound (P := P) c.w k3 x3 x2.toNat code p3 (by omega)
        simp only [Sem.run_bind, Sem.run_pure, Result.andThen_ok, r2, r3]; simp [e2, e3]
  · have r1 := fun code => run_sliceBound (P := P) c.w k1 x1 cap code p1 (by omega)
    rcases bound_run hhi hh with ⟨rfl, rfl, e2⟩ | ⟨k2, x2, rfl, rfl, p2, e2⟩
    · exact absurd rfl (hnn (by simp))
    · have r2 := fun code => run_sliceBound (P := P) c.w k2 x2 x1.toNat code p2 (by omega)
      rcases bound_run hlo hl with ⟨rfl, rfl, e3⟩ | ⟨k3, x3, rfl, rfl, p3, e3⟩
      · simp only [Sem.run_bind, Sem.run_pure, Result.andThen_ok, r1, r2]; simp [e1, e2, e3]
      · have r3 := fun code => run_sliceBound (P := P) c.w k3 x3 x2.toNat code p3 (by omega)
        simp only [Sem.run_bind, Sem.run_pure, Result.andThen_ok, r1, r2, r3]; simp [e1, e2, e3]

theorem slice_str_gives (hE : EnvOK P E) {t : TypeId} {i : TI} (hi : E.ti t = some i) (hd : i.desc = .str) {H : Heap} {s : List UInt8} {lo hi' mx : Option D} {d : D}
    (h : sliceD H (.str s) lo hi' mx = some d) {vlo vhi vmx : Option Value} (hlo : Bound (c := c) lo vlo) (hhi : Bound (c := c) hi' vhi) (hmx : Bound (c := c) mx vmx) :
    Gives P c (Instr.sliceAt t (.string ⟨s.toArray⟩) vlo vhi vmx) d := by
  have hu := under_str (hE.ti t i hi) hd
  simp only [sliceD] at h
  split at h
  · rename_i hn h2 hbh
    rcases hmx with ⟨_, rfl⟩ | ⟨x, u, e, _, _⟩
    · split at h
      · rename_i hle
        split at h
        · rename_i l hbl
          split at h
          · rename_i hlh
            cases h
            have hb := sliceBounds_run (P := P) (isS := false) (cap := s.length) (dm := s.length) (m := s.length) (mx := none) (vmx := none) hlo hhi (.inl ⟨rfl, rfl⟩) rfl hbh hbl hlh hle (Nat.le_refl _) (by simp) (Nat.le_refl _)
            have hsz : (⟨s.toArray⟩ : ByteArray).size = s.length := List.size_toArray
            simp only [if_true] at hb
            have hrun : (Instr.slice t (.string ⟨s.toArray⟩) vlo vhi none).run P c.w = .ok (.string ((⟨s.toArray⟩ : ByteArray).extract l h2)) c.w := by
              unfold Instr.slice
              simp only [Sem.run_bind, run_underlying hu, Result.andThen_ok, Option.isSome_none, Bool.false_eq_true, if_false, Sem.run_pure, hsz, hb]
            refine ⟨_, by rw [run_sliceAt_string _ _ _ _ _ _ hu, hrun], ?_⟩
            simp only [Rep, Value.string.injEq]
            apply ByteArray.ext
            rw [ByteArray.data_extract]
            apply Array.ext'
            simp [List.drop_take]
          · cases h
        · cases h
      · cases h
    · cases e
  · cases h

/-- The place and the capacity that a cut hands back. -/
theorem sliceAt_run {t e : TypeId} {i ei : TI} (hi : mkTI P t = some i) (hd : i.desc = .slice e) (hei : mkTI P e = some ei) {a : Option Addr} {len cap l h m : Nat} {vlo vhi vmx : Option Value}
    (hb : (Instr.sliceBounds true len cap vlo vhi vmx).run P c.w = .ok (l, h, m) c.w) :
    (Instr.sliceAt t (.slice a len cap) vlo vhi vmx).run P c.w = .ok (.slice (if m = l then a else a.map (·.add (l * ei.size))) (h - l) (m - l)) c.w := by
  have hu := under_slice hi hd
  unfold Instr.sliceAt
  simp only [Sem.run_bind, run_underlying hu, Result.andThen_ok]
  unfold Instr.slice
  simp only [Sem.run_bind, run_underlying hu, Result.andThen_ok, hb, sizeOf_run hei, Sem.run_pure]

theorem RepRows.drop {sz : Nat} {xs : List (List D)} {b o : Nat} (h : RepRows c sz xs b o) (l : Nat) : RepRows c sz (xs.drop l) b (o + l * sz) := RepRows.of fun i x hx => by
  have := h.get (l + i) x (by simpa using hx)
  rwa [show o + (l + i) * sz = o + l * sz + i * sz by rw [Nat.add_mul]; omega] at this
theorem RepRows.take {sz : Nat} {xs : List (List D)} {b o : Nat} (h : RepRows c sz xs b o) (k : Nat) : RepRows c sz (xs.take k) b o := RepRows.of fun i x hx => by
  rw [List.getElem?_take] at hx
  split at hx
  · exact h.get i x hx
  · cases hx

/-- Rows that the cut's type fits. -/
theorem slice_slc_gives (hE : EnvOK P E) {t e : TypeId} {i ei : TI} (hi : E.ti t = some i) (hd : i.desc = .slice e) (hei : E.ti e = some ei) {H : Heap} {xs : List (List D)} (hxs : headOK ei.size xs = true) {lo hi' mx : Option D} {d : D}
    (h : sliceD H (.slc xs) lo hi' mx = some d) {vlo vhi vmx : Option Value} (hlo : Bound (c := c) lo vlo) (hhi : Bound (c := c) hi' vhi) (hmx : Bound (c := c) mx vmx) (hnn : mx ≠ none → hi' ≠ none) {v : Value} (hv : Rep c (.slc xs) v) :
    Gives P c (Instr.sliceAt t v vlo vhi vmx) d := by
  simp only [Rep] at hv
  obtain ⟨a, len, cap, rfl, hlen, hlc, hcm, hr⟩ := hv
  simp only [sliceD] at h
  split at h
  · rename_i m h2 hbm hbh
    split at h
    · rename_i hle
      split at h
      · rename_i l hbl
        split at h
        · rename_i hlh
          have hb := sliceBounds_run (P := P) (isS := true) (len := len) (cap := cap) hlo hhi hmx hbm (by rw [hlen]; exact hbh) hbl hlh hle.2 (by omega) hnn hlc
          have hrun := sliceAt_run (hE.ti t i hi) hd (hE.ti e ei hei) (a := a) hb
          refine ⟨_, hrun, ?_⟩
          split at h
          · rename_i hml
            cases h
            simp only [Bool.and_eq_true, Option.isSome_iff_ne_none, beq_iff_eq, ne_eq] at hml
            have hvm : vmx ≠ none := by
              rcases hmx with ⟨e1, _⟩ | ⟨x, u, _, e2, _⟩
              · exact absurd e1 hml.1
              · rw [e2]; simp
            simp only [if_neg hvm, Rep]
            have : m = l := hml.2
            subst this
            exact ⟨a, by simp; omega⟩
          · cases h
            simp only [Rep]
            have hm' : m ≤ (if vmx = none then cap else m) := by split <;> omega
            have hm2 : (if vmx = none then cap else m) ≤ cap := by split <;> omega
            refine ⟨_, _, _, rfl, by simp; omega, by omega, by omega, ?_⟩
            by_cases hx : (xs.take h2).drop l = []
            · exact .inl hx
            · right
              have hlt : l < h2 := by
                rcases Nat.lt_or_ge l h2 with k | k
                · exact k
                · exact absurd (by rw [List.drop_eq_nil_iff]; simp; omega) hx
              rcases hr with hr | ⟨b, o, sz, rfl, hr⟩
              · subst hr; simp at hx
              · have hsz : sz = ei.size := by
                  have h0 : xs ≠ [] := by rintro rfl; simp at hx
                  obtain ⟨y, ys, rfl⟩ := List.exists_cons_of_ne_nil h0
                  simp only [RepRows] at hr
                  rw [← hr.1]; simpa [headOK] using hxs
                subst hsz
                refine ⟨b, o + l * ei.size, ei.size, ?_, (hr.take h2).drop l⟩
                rw [if_neg (by omega)]
                simp [add_none]
        · cases h
      · cases h
    · cases h
  · cases h

theorem slice_emp_gives (hE : EnvOK P E) {t e : TypeId} {i ei : TI} (hi : E.ti t = some i) (hd : i.desc = .slice e) (hei : E.ti e = some ei) {H : Heap} {lo hi' mx : Option D} {d : D}
    (h : sliceD H .emp lo hi' mx = some d) {vlo vhi vmx : Option Value} (hlo : Bound (c := c) lo vlo) (hhi : Bound (c := c) hi' vhi) (hmx : Bound (c := c) mx vmx) (hnn : mx ≠ none → hi' ≠ none) {v : Value} (hv : Rep c .emp v) :
    Gives P c (Instr.sliceAt t v vlo vhi vmx) d := by
  simp only [Rep] at hv
  obtain ⟨a, rfl⟩ := hv
  simp only [sliceD] at h
  split at h
  · rename_i hbm hbh hbl
    cases h
    have hb := sliceBounds_run (P := P) (isS := true) (len := 0) (cap := 0) hlo hhi hmx hbm hbh hbl (Nat.le_refl _) (Nat.le_refl _) (Nat.le_refl _) hnn (Nat.le_refl _)
    have hrun := sliceAt_run (hE.ti t i hi) hd (hE.ti e ei hei) (a := a) hb
    refine ⟨_, hrun, ?_⟩
    have : (if vmx = none then 0 else 0) = 0 := by split <;> rfl
    rw [this]
    simp [Rep]
  · cases h

theorem slice_arr_gives (hinv : Inv E c) (hE : EnvOK P E) {t e : TypeId} {i ei : TI} (hi : E.ti t = some i) (hd : i.desc = .slice e) (hei : E.ti e = some ei) {H : Heap} {id n : Nat} (hH : ∀ ob, H[id]? = some ob → c.H id = some ob)
    (hxs : ∀ ob, H[id]? = some ob → headOK ei.size ob.xs = true) {lo hi' mx : Option D} {d : D}
    (h : sliceD H (.arr id n) lo hi' mx = some d) {vlo vhi vmx : Option Value} (hlo : Bound (c := c) lo vlo) (hhi : Bound (c := c) hi' vhi) (hmx : Bound (c := c) mx vmx) (hnn : mx ≠ none → hi' ≠ none) {v : Value} (hv : Rep c (.arr id n) v) :
    Gives P c (Instr.sliceAt t v vlo vhi vmx) d := by
  simp only [sliceD] at h
  split at h
  case h_2 => cases h
  rename_i ob hob
  have hc := hH ob hob
  have hO := hinv.ob id ob hc
  simp only [Rep] at hv
  obtain ⟨hs, ob', h1, h2, h3⟩ := hv
  rw [hc] at h1
  injection h1 with h1
  subst h1
  split at h
  case isFalse => cases h
  rename_i hn
  have hn' : ob.xs.length = n := by simpa using hn
  rw [h3 hn'.symm]
  have hlc : n ≤ c.κ id := by have := hO.len; omega
  split at h
  · rename_i m h2' hbm hbh
    split at h
    · rename_i hle
      split at h
      · rename_i l hbl
        split at h
        · rename_i hlh
          have hb := sliceBounds_run (P := P) (isS := true) (len := n) (cap := c.κ id) hlo hhi hmx hbm hbh hbl hlh hle.2 (by omega) hnn hlc
          have hrun := sliceAt_run (hE.ti t i hi) hd (hE.ti e ei hei) (a := some ⟨c.η id, 0, none⟩) hb
          refine ⟨_, hrun, ?_⟩
          split at h
          · rename_i hml
            cases h
            simp only [Bool.and_eq_true, Option.isSome_iff_ne_none, beq_iff_eq, ne_eq] at hml
            have hvm : vmx ≠ none := by
              rcases hmx with ⟨e1, _⟩ | ⟨x, u, _, e2, _⟩
              · exact absurd e1 hml.1
              · rw [e2]; simp
            simp only [if_neg hvm, Rep]
            have : m = l := hml.2
            subst this
            refine ⟨some ⟨c.η id, 0, none⟩, ?_⟩
            have e1 : h2' - m = 0 := by omega
            simp [e1]
          · cases h
            simp only [Rep, IsSlice]
            have hm' : m ≤ (if vmx = none then c.κ id else m) := by split <;> omega
            have hm2 : (if vmx = none then c.κ id else m) ≤ c.κ id := by split <;> omega
            have hhm := hle.2
            have hcap := hO.cap
            refine ⟨⟨_, _, _, rfl⟩, ob, hc, by omega, hlh, Nat.le_trans hle.2 hle.1, fun _ => ⟨_, _, rfl, by omega, by omega, ?_⟩⟩
            rcases Nat.lt_or_ge l h2' with k | k
            · right
              have hsz : c.σ id = ei.size := by
                have h0 := hxs ob hob
                cases hx : ob.xs with
                | nil => rw [hx] at hn'; simp at hn'; omega
                | cons y ys =>
                  rw [hx] at h0
                  have := (hO.row 0 y (by rw [hx]; rfl)).1
                  rw [← this]; simpa [headOK] using h0
              rw [if_neg (by omega)]
              simp [add_none, hsz]
            · left; omega
        · cases h
      · cases h
    · cases h
  · cases h

/-! ### Places, parts -/
theorem index_gives (hE : EnvOK P E) {t : TypeId} {i : TI} (hi : E.ti t = some i) (hd : i.desc = .str) {s : List UInt8} {k : IntKind} {j : Int} {d : D} (h0 : ¬ j < 0) (h : (s[j.toNat]?).map (fun b => D.int .u8 b.toNat) = some d) :
    Gives P c (Instr.index t (.string ⟨s.toArray⟩) (.int k j)) d := by
  have hu := under_str (hE.ti t i hi) hd
  simp only [Option.map_eq_some_iff] at h
  obtain ⟨b, hb, rfl⟩ := h
  refine ⟨.int .u8 b.toNat, ?_, by simp [Rep]⟩
  have : (⟨s.toArray⟩ : ByteArray)[j.toNat]? = some b := by
    have hlt : j.toNat < s.length := by
      rcases Nat.lt_or_ge j.toNat s.length with k | k
      · exact k
      · rw [List.getElem?_eq_none k] at hb; cases hb
    have hsz : j.toNat < (⟨s.toArray⟩ : ByteArray).size := by rw [show (⟨s.toArray⟩ : ByteArray).size = s.length from List.size_toArray]; exact hlt
    rw [getElem?_pos (⟨s.toArray⟩ : ByteArray) j.toNat hsz]
    rw [List.getElem?_eq_getElem hlt] at hb
    injection hb with hb
    rw [← hb]
    rfl
  simp [Instr.index, asIntOf, run_underlying hu, this, show (0 : Int) ≤ j by omega]

theorem extract_gives {t d : D} {j : Nat} {ds : List D} (ht : t = .tup ds) (h : ds[j]? = some d) {v : Value} (hv : Rep c t v) : Gives P c (Instr.extract v j) d := by
  subst ht
  simp only [Rep] at hv
  obtain ⟨vs, rfl, hl⟩ := hv
  obtain ⟨u, hu, hr⟩ := hl.get j d h
  refine ⟨u, ?_, hr⟩
  have : vs[j]? = some u := by simpa using hu
  simp [Instr.extract, this]

theorem field_run {s : TypeId} {i : TI} {fs : List (Nat × Nat × Bool)} (hi : mkTI P s = some i) (hd : i.desc = .struct fs) {fi off size : Nat} {ag : Bool} (hp : placeD i.desc fi = some (off, size, ag)) :
    ∃ gs f, P.underlying s = some (.struct gs) ∧ gs[fi]? = some f ∧ f.offset = off ∧ P.cellsOf f.type = size ∧ ag = (match P.underlying f.type with | some (.struct _) | some (.array _ _) => true | _ => false) := by
  obtain ⟨gs, h1, _, h2⟩ := under_struct hi hd
  rw [hd] at hp
  simp only [placeD, h2, List.getElem?_map, Option.map_eq_some_iff] at hp
  obtain ⟨f, hf, e⟩ := hp
  simp only [Prod.mk.injEq] at e
  exact ⟨gs, f, h1, by simpa using hf, e.1, e.2.1, e.2.2.symm⟩

end
end Go.Cv
