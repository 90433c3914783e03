/- append: what the machine makes of it. -/
import Derived.Test.YtlfkhemmgkdjjaaGreatDoorCvStore
import Derived.Deep.AppendSrc
import Derived.Deep.Upon
set_option linter.unusedSimpArgs false
set_option linter.unusedVariables false
namespace Go.Cv
open Go.RowKit

section
variable {P : Program} {E : Env} {c : Ctx}

/-- Rows one behind the other. -/
theorem flatten_get {sz : Nat} : {rows : List (List D)} → (∀ x ∈ rows, x.length = sz) → (i j : Nat) → (x : List D) → rows[i]? = some x → (d : D) → x[j]? = some d → rows.flatten[i * sz + j]? = some d
  | [], _, i, j, x, h, _, _ => by simp at h
  | y :: rows, hl, i, j, x, h, d, hd => by
    have hy : y.length = sz := hl y (by simp)
    cases i with
    | zero =>
      simp at h; subst h
      have : j < y.length := (List.getElem?_eq_some_iff.1 hd).1
      simp only [List.flatten_cons, Nat.zero_mul, Nat.zero_add]
      rw [List.getElem?_append_left this]; exact hd
    | succ i =>
      simp only [List.flatten_cons]
      rw [List.getElem?_append_right (by rw [hy, Nat.add_mul]; omega)]
      have := flatten_get (rows := rows) (fun x hx => hl x (List.mem_cons_of_mem _ hx)) i j x (by simpa using h) d hd
      rwa [show (i + 1) * sz + j - y.length = i * sz + j by rw [hy, Nat.add_mul]; omega]
theorem flatten_length {sz : Nat} : {rows : List (List D)} → (∀ x ∈ rows, x.length = sz) → rows.flatten.length = rows.length * sz
  | [], _ => by simp
  | y :: rows, hl => by
    rw [List.flatten_cons, List.length_append, flatten_length (fun x hx => hl x (by simp [hx])), hl y (by simp), List.length_cons, Nat.add_mul]; omega

theorem Rows.flat {sz : Nat} : {rows : List (List D)} → {b o : Nat} → Rows c sz rows b o → Row c b o rows.flatten
  | [], _, _, _ => fun j d h => by simp at h
  | y :: rows, b, o, h => by
    obtain ⟨h1, h2⟩ := h 0 y rfl
    have h3 : Rows c sz rows b (o + sz) := fun i x hx => by
      have := h (i + 1) x (by simpa using hx)
      rwa [show o + (i + 1) * sz = o + sz + i * sz by rw [Nat.add_mul]; omega] at this
    intro j d hd
    rw [List.flatten_cons] at hd
    rcases Nat.lt_or_ge j y.length with g | g
    · rw [List.getElem?_append_left g] at hd
      have := h2 j d hd
      simpa using this
    · rw [List.getElem?_append_right g] at hd
      have := (Rows.flat h3) (j - y.length) d hd
      rwa [show o + sz + (j - y.length) = o + j by omega] at this

theorem rows_leaf (hinv : Inv E c) {H : Heap} {x : D} (hH : ∀ id ∈ ids x, ∀ ob, H[id]? = some ob → c.H id = some ob) {rows : List (List D)} (h : rowsOf H x = some rows) {v : Value} (hv : Rep c x v) :
    ∀ (i : Nat) (y : List D), rows[i]? = some y → ∀ (j : Nat) (d : D), y[j]? = some d → leaf d = true := by
  cases x with
  | slc xs =>
    simp only [rowsOf, Option.some.injEq] at h
    subst h
    simp only [Rep] at hv
    obtain ⟨a, len, cap, rfl, h1, h2, h3, h4⟩ := hv
    intro i y hy j d hd
    rcases h4 with h4 | ⟨b, o, sz, ha, hr⟩
    · subst h4; simp at hy
    · exact ((hr.get i y hy).2.get j d hd).2.1
  | emp => simp only [rowsOf, Option.some.injEq] at h; subst h; intro i y hy; simp at hy
  | arr id n =>
    simp only [rowsOf] at h
    split at h
    case h_2 => cases h
    rename_i ob hob
    split at h
    case isFalse => cases h
    injection h with h
    subst h
    intro i y hy j d hd
    exact (((hinv.ob id ob (hH id (by simp [ids]) ob hob)).row i y hy).2 j d hd).1
  | asl id n lo hi =>
    simp only [rowsOf] at h
    split at h
    case h_2 => cases h
    rename_i ob hob
    split at h
    case isFalse => cases h
    injection h with h
    subst h
    intro i y hy j d hd
    have hy' : ob.xs[lo + i]? = some y := by
      rw [List.getElem?_drop, List.getElem?_take] at hy
      split at hy
      · exact hy
      · cases hy
    exact (((hinv.ob id ob (hH id (by simp [ids]) ob hob)).row _ y hy').2 j d hd).1
  | _ => cases h

theorem headOK_rows {sz s2 : Nat} {rows : List (List D)} {b o : Nat} (h : headOK sz rows = true) (hr : Rows c s2 rows b o) (hne : rows ≠ []) : s2 = sz := by
  obtain ⟨y, ys, rfl⟩ := List.exists_cons_of_ne_nil hne
  have := (hr 0 y rfl).1
  simp [headOK] at h
  omega

/-- What is appended: values, as the machine reads them. -/
theorem src_of (hinv : Inv E c) (hE : EnvOK P E) {H : Heap} {x : D} (hH : ∀ id ∈ ids x, ∀ ob, H[id]? = some ob → c.H id = some ob) {tx : TypeId} {sz : Nat} {v : Value} (hv : Rep c x v)
    {rows : List (List D)} (hr : srcRows H x = some rows) (hh : headOK sz rows = true) (ht : srcType E tx sz x = true) :
    ∃ news, Src P sz tx v rows.length news c.w ∧ RepL c rows.flatten news ∧ (∀ y ∈ rows, y.length = sz) ∧ ∀ y ∈ rows, ∀ d ∈ y, leaf d = true := by
  by_cases hstr : ∃ s, x = .str s
  · obtain ⟨s, rfl⟩ := hstr
    simp only [srcRows, Option.some.injEq] at hr
    subst hr
    simp only [srcType, Bool.and_eq_true, beq_iff_eq] at ht
    obtain ⟨rfl, ht⟩ := ht
    have hk : P.underlying tx = some .string := by
      split at ht
      · rename_i i0 e; exact under_str (hE.ti tx _ e) rfl
      · cases ht
    simp only [Rep] at hv
    subst hv
    have hsz : (⟨s.toArray⟩ : ByteArray).size = s.length := List.size_toArray
    have hs := Src.ofString (P := P) c.w hk ⟨s.toArray⟩
    rw [hsz] at hs
    refine ⟨_, by simpa [rowsOfBytes] using hs, ?_, fun y hy => ?_, fun y hy d hd => ?_⟩
    · have : (rowsOfBytes s).flatten = s.map fun b => D.int .u8 b.toNat := by
        unfold rowsOfBytes
        clear hH hh hsz hs
        induction s with
        | nil => rfl
        | cons b s ih => simp only [List.map_cons, List.flatten_cons, ih, List.singleton_append]
      rw [this]
      refine RepL.of (by simp [byteCells]) fun i d u hd hu => ?_
      simp only [List.getElem?_map, Option.map_eq_some_iff, byteCells] at hd hu
      obtain ⟨b, hb, rfl⟩ := hd
      obtain ⟨b', hb', rfl⟩ := hu
      rw [hb] at hb'; injection hb' with hb'; subst hb'
      simp [Rep]
    · simp only [rowsOfBytes, List.mem_map] at hy; obtain ⟨b, _, rfl⟩ := hy; rfl
    · simp only [rowsOfBytes, List.mem_map] at hy; obtain ⟨b, _, rfl⟩ := hy; simp at hd; subst hd; rfl
  · have hr' : rowsOf H x = some rows := by
      cases x <;> first | exact hr | exact absurd ⟨_, rfl⟩ hstr
    have hk : ∃ e', P.underlying tx = some (.slice e') := by
      have : (match E.ti tx with | some ⟨_, _, _, _, .slice _⟩ => true | _ => false) = true := by
        cases x <;> first | exact ht | exact absurd ⟨_, rfl⟩ hstr
      split at this
      · rename_i i0 e; exact ⟨_, under_slice (hE.ti tx _ e) rfl⟩
      · cases this
    obtain ⟨e', hk⟩ := hk
    obtain ⟨a, len, cap, rfl, hl, _, _, hm⟩ := rows_mem hinv hH hr' hv
    have hleaf := rows_leaf hinv hH hr' hv
    by_cases hne : rows = []
    · subst hne
      have hz : len = 0 := by simpa using hl
      subst hz
      refine ⟨[], ?_, by simp [RepL], by simp, by simp⟩
      cases a with
      | none => exact Src.ofNil c.w hk cap
      | some a => exact Src.ofSlice c.w hk a 0 cap [] (by simp) (by simp) (by simp)
    · rcases hm with hm | ⟨b, o, s2, rfl, hm⟩
      · exact absurd hm hne
      · have e2 := headOK_rows hh hm hne
        subst e2
        have hlen : ∀ y ∈ rows, y.length = s2 := fun y hy => by
          obtain ⟨i, hi⟩ := List.mem_iff_getElem?.1 hy
          exact (hm i y hi).1
        obtain ⟨vs, k1, k2⟩ := hm.flat.values
        have hlf : ∀ y ∈ rows, ∀ d ∈ y, leaf d = true := fun y hy d hd => by
          obtain ⟨i, hi⟩ := List.mem_iff_getElem?.1 hy
          obtain ⟨j, hj⟩ := List.mem_iff_getElem?.1 hd
          exact hleaf i y hi j d hj
        refine ⟨vs, ?_, k1, hlen, hlf⟩
        rw [hl]
        refine Src.ofSlice c.w hk _ _ cap vs (by rw [k1.length, flatten_length hlen]) (fun j u hj => by rw [add_none]; exact k2 j u hj) fun u hu => ?_
        obtain ⟨j, hj⟩ := List.mem_iff_getElem?.1 hu
        have hjl : j < rows.flatten.length := by rw [← k1.length]; exact (List.getElem?_eq_some_iff.1 hj).1
        obtain ⟨u', q1, q2⟩ := k1.get j _ (List.getElem?_eq_getElem hjl)
        rw [hj] at q1; injection q1 with q1; subst q1
        have hl2 : leaf rows.flatten[j] = true := by
          have := List.getElem_mem hjl
          obtain ⟨y, hy, hd⟩ := List.mem_flatten.1 this
          exact hlf y hy _ hd
        obtain ⟨n1, n2⟩ := q2.leaf hl2
        cases u <;> first
          | rfl
          | exact absurd rfl (n1 _)
          | exact absurd rfl (n2 _)

end
end Go.Cv
/- append, whole. -/
set_option linter.unusedSimpArgs false
set_option linter.unusedVariables false
namespace Go.Cv
open Go.RowKit

/-- How a heap's numbers turn: what may be written (W), what is new. -/
structure HStep (H H' : Heap) (f f' : Nat → Option Ob) (W : List Nat) : Prop where
  w : ∀ i ∈ W, i < H.length
  len : H.length ≤ H'.length
  new : ∀ i, H.length ≤ i → i < H'.length → f' i = H'[i]?
  old : ∀ i, i ∈ W → i < H.length → f' i = H'[i]?
  same : ∀ i, i ∉ W → ¬ (H.length ≤ i ∧ i < H'.length) → f' i = f i
  hsame : ∀ i, i ∉ W → i < H.length → H'[i]? = H[i]?

theorem HStep.refl (H : Heap) (f : Nat → Option Ob) : HStep H H f f [] := ⟨fun i h => by simp at h, Nat.le_refl _, fun i h1 h2 => by omega, fun i h => by simp at h, fun _ _ _ => rfl, fun _ _ _ => rfl⟩

theorem HStep.push (H : Heap) (f : Nat → Option Ob) (ob : Ob) : HStep H (H ++ [ob]) f (upd f H.length (some ob)) [] :=
  ⟨fun i h => by simp at h, by simp, fun i h1 h2 => by
    have : i = H.length := by simp at h2; omega
    subst this; simp, fun i h => by simp at h, fun i _ h2 => upd_ne _ _ (by intro e; subst e; exact h2 ⟨Nat.le_refl _, by simp⟩), fun i _ h => by rw [List.getElem?_append_left h]⟩

theorem HStep.set (H : Heap) (f : Nat → Option Ob) {id : Nat} {ob : Ob} (ob' : Ob) (h : H[id]? = some ob) : HStep H (H.set id ob') f (upd f id (some ob')) [id] :=
  ⟨fun i h1 => by simp at h1; subst h1; exact (List.getElem?_eq_some_iff.1 h).1, by simp, fun i h1 h2 => by simp at h2; omega, fun i h1 h2 => by
    simp at h1; subst h1; simp [List.getElem?_set, h2], fun i h1 _ => upd_ne _ _ (by simpa using h1), fun i h1 _ => by
    have : id ≠ i := by intro e; subst e; simp at h1
    simp [List.getElem?_set, this]⟩

theorem HStep.heap {H H' : Heap} {f f' : Nat → Option Ob} {W : List Nat} (h : HStep H H' f f' W) (hf : f = (H[·]?)) : f' = (H'[·]?) := by
  funext i
  by_cases h1 : H.length ≤ i ∧ i < H'.length
  · exact h.new i h1.1 h1.2
  · by_cases h2 : i ∈ W
    · rcases Nat.lt_or_ge i H.length with h3 | h3
      · exact h.old i h2 h3
      · have := h.w i h2; omega
    · rw [h.same i h2 h1, hf]
      rcases Nat.lt_or_ge i H.length with h3 | h3
      · exact (h.hsame i h2 h3).symm
      · have : H'.length ≤ i := by
          rcases Nat.lt_or_ge i H'.length with h4 | h4
          · exact absurd ⟨h3, h4⟩ h1
          · exact h4
        simp only
        rw [List.getElem?_eq_none h3, List.getElem?_eq_none this]

section
variable {P : Program} {E : Env} {c : Ctx}

theorem grownCap_bounds (w : World) {need old : Nat} (e : TypeId) (h : need ≤ 9223372036854775807) : need ≤ grownCap w need old e ∧ grownCap w need old e ≤ maxLen := by
  unfold grownCap Question.cut maxLen
  simp only
  have : w.tape w.drawn (Question.appendCap need old e) % (2 ^ 63 - need) < 2 ^ 63 - need := Nat.mod_lt _ (by omega)
  omega

theorem zeroCells_size (z : Array Value) (n : Nat) : (Builtin.zeroCells z n).size = n * z.size := by simp [Builtin.zeroCells]

theorem append_sound (hi : Inv E c) (hE : EnvOK P E) {H H' : Heap} {st tx ty : TypeId} {s x d : D} {vs vx : Value} (hH : ∀ id, id ∈ ids s ∨ id ∈ ids x → ∀ ob, H[id]? = some ob → c.H id = some ob) (hnew : H.length < H'.length → c.H H.length = none)
    (h : appendD E H st tx s x = some (d, H')) (hs : Rep c s vs) (hx : Rep c x vx) :
    ∃ v c', (Builtin.append_ #[st, tx] ty #[vs, vx]).run P c.w = .ok v c'.w ∧ Step c c' ∧ Inv E c' ∧ Rep c' d v ∧ ∃ W, (∀ i ∈ W, i ∈ ids s) ∧ HStep H H' c.H c'.H W := by
  unfold appendD at h
  split at h
  case h_2 => cases h
  rename_i e hst
  split at h
  case h_2 => cases h
  rename_i ei hei
  split at h
  case h_1 => cases h
  rename_i ys hys
  split at h
  case isTrue => cases h
  rename_i hcond
  simp only [Bool.not_eq_true', Bool.not_eq_false, Bool.and_eq_true, bne_iff_ne, ne_eq, beq_iff_eq] at hcond
  obtain ⟨⟨⟨hh, hty⟩, hs0⟩, hz⟩ := hcond
  have hust := under_slice (hE.ti st _ hst) rfl
  have hei' := hE.ti e ei hei
  obtain ⟨info, z, k1, k2, k3⟩ := zero_rep (c := c) hei' hz hs0
  have hisz : info.size = ei.size := by
    obtain ⟨inf2, u, q1, q2, q3, _⟩ := mkTI_spec hei'
    rw [k1] at q1; injection q1 with q1; subst q1; exact q3.symm
  have hiby : info.bytes = ei.bytes := by
    obtain ⟨inf2, u, q1, q2, q3, q4, _⟩ := mkTI_spec hei'
    rw [k1] at q1; injection q1 with q1; subst q1; exact q4.symm
  have hzs : z.cells.size = ei.size := by have := k3.length; simp at this; omega
  obtain ⟨news, hsrc, hrep, hlen, hlf⟩ := src_of hi hE (fun id hid => hH id (.inr hid)) hx hys hh hty
  have hnl : news.length = ys.length * ei.size := hsrc.newsLen
  have hsrc' : Src P info.size tx vx ys.length news c.w := by rw [hisz]; exact hsrc
  -- the rows of a new block
  have hrowNew : ∀ (olds : List Value) (k : Nat) (rest : Array Value), olds.length = k * ei.size → ∀ (i : Nat) (y : List D), ys[i]? = some y → y.length = ei.size ∧ ∀ (j : Nat) (q : D), y[j]? = some q →
      leaf q = true ∧ ∃ u, ((olds ++ news).toArray ++ rest)[(k + i) * ei.size + j]? = some u ∧ Rep c q u := fun olds k rest ho i y hy => by
    have hyl := hlen y (List.mem_of_getElem? hy)
    refine ⟨hyl, fun j q hq => ⟨hlf y (List.mem_of_getElem? hy) q (List.mem_of_getElem? hq), ?_⟩⟩
    obtain ⟨u, u1, u2⟩ := hrep.get _ _ (flatten_get hlen i j y hy q hq)
    refine ⟨u, ?_, u2⟩
    have hlt : i * ei.size + j < news.length := (List.getElem?_eq_some_iff.1 u1).1
    rw [Array.getElem?_append_left (by simp; rw [ho, Nat.add_mul]; omega)]
    simp only [List.getElem?_toArray]
    rw [List.getElem?_append_right (by rw [ho, Nat.add_mul]; omega), ho, Nat.add_mul, show k * ei.size + i * ei.size + j - k * ei.size = i * ei.size + j by omega]
    exact u1
  cases s with
  | emp =>
    simp only at h
    simp only [Rep] at hs
    obtain ⟨a, rfl⟩ := hs
    split at h
    · rename_i hemp
      injection h with h
      simp only [Prod.mk.injEq] at h
      obtain ⟨rfl, rfl⟩ := h
      have hy0 : ys = [] := by simpa using hemp
      subst hy0
      have hn0 : news = [] := by simpa using hnl
      subst hn0
      exact ⟨_, c, run_append_nothing c.w st tx ty e info hust k1 a 0 0 (Nat.le_refl _) vx hsrc', Step.refl c, hi, by simp [Rep], [], by simp, HStep.refl _ _⟩
    · rename_i hemp
      split at h
      case isFalse => cases h
      rename_i hroom
      injection h with h
      simp only [Prod.mk.injEq] at h
      obtain ⟨rfl, rfl⟩ := h
      simp only [roomOK, Bool.and_eq_true, decide_eq_true_eq] at hroom
      have hpos : 0 < ys.length := by
        rcases Nat.eq_zero_or_pos ys.length with g | g
        · exact absurd (by simpa using g) hemp
        · exact g
      have hold : (Builtin.firstCells info.size 0 (.slice a 0 0)).run P c.w.drew = .ok ([] : List Value).toArray c.w.drew := by
        cases a with
        | none => simp [Builtin.firstCells]
        | some a => simp [Builtin.firstCells, loadCells, loadCellsFrom]
      have hrun := run_append_grow_src c.w st tx ty e info z hust k1 k2 a 0 0 [] hold vx ys.length news hsrc' (by omega) (by omega) (growslice_fits (by omega) (by rw [hiby, Nat.zero_add]; omega))
      simp only [Nat.zero_add, List.nil_append] at hrun
      obtain ⟨g1, g2⟩ := grownCap_bounds c.w (old := 0) e hroom.2
      obtain ⟨s1, i1⟩ := step_drew hi
      have hst2 := step_newOb (c := c.at_ c.w.drew) i1 (n := H.length) (ob := ⟨ys, 0⟩) (cur := news.toArray ++ Builtin.zeroCells z.cells (grownCap c.w ys.length 0 e - ys.length)) (T := e) (cap := grownCap c.w ys.length 0 e) (sz := ei.size)
        (fun ob0 h0 => by have : c.H H.length = some ob0 := h0; rw [hnew (by simp)] at this; cases this) (by simp) (fun i y _ hlt => by simp at hlt) (fun e => by have : ys = [] := e; rw [this] at hpos; simp at hpos) g1 g2
        (by simp [zeroCells_size, hzs, hnl]; rw [← Nat.add_mul]; exact Nat.mul_le_mul_right _ (by omega))
        (fun i y hy => by
          obtain ⟨r1, r2⟩ := hrowNew [] 0 (Builtin.zeroCells z.cells (grownCap c.w ys.length 0 e - ys.length)) (by simp) i y hy
          refine ⟨r1, fun j q hq => ?_⟩
          obtain ⟨m1, u, m2, m3⟩ := r2 j q hq
          exact ⟨m1, u, by simpa using m2, m3.mono s1.le⟩)
      refine ⟨_, _, hrun, s1.trans hst2.1, hst2.2, ?_, [], by simp, HStep.push _ _ _⟩
      simp only [Rep, IsSlice]
      refine ⟨⟨_, _, _, rfl⟩, ⟨ys, 0⟩, upd_same .., Nat.le_refl _, fun _ => ?_⟩
      show _ = Value.slice (some ⟨upd c.η H.length c.w.drew.heap.size H.length, 0, none⟩) ys.length (upd c.κ H.length _ H.length)
      rw [upd_same, upd_same]
      rfl
  | arr id n =>
    simp only at h
    split at h
    case h_2 => cases h
    rename_i ob hob
    split at h
    case isFalse => cases h
    rename_i hc2
    simp only [Bool.and_eq_true, beq_iff_eq] at hc2
    obtain ⟨⟨hn, hh2⟩, hroom⟩ := hc2
    injection h with h
    simp only [Prod.mk.injEq] at h
    obtain ⟨rfl, rfl⟩ := h
    simp only [roomOK, Bool.and_eq_true, decide_eq_true_eq] at hroom
    have hcH := hH id (.inl (by simp [ids])) ob hob
    have hO := hi.ob id ob hcH
    simp only [Rep] at hs
    obtain ⟨_, ob1, p1, p2, p3⟩ := hs
    rw [hcH] at p1; injection p1 with p1; subst p1
    rw [p3 hn.symm]
    have hidl : id < H.length := (List.getElem?_eq_some_iff.1 hob).1
    obtain ⟨cur, T, fz, b1, b2, b3, _⟩ := hO.blk
    have hσ : n ≠ 0 → c.σ id = ei.size := fun hn0 => by
      cases hx0 : ob.xs with
      | nil => rw [hx0] at hn; simp at hn; omega
      | cons y0 ys0 =>
        rw [hx0] at hh2
        have := (hO.row 0 y0 (by rw [hx0]; rfl)).1
        simp [headOK] at hh2
        omega
    by_cases hy0 : ys = []
    · subst hy0
      have hn0 : news = [] := by simpa using hnl
      subst hn0
      have hrun := run_append_nothing c.w st tx ty e info hust k1 (some ⟨c.η id, 0, none⟩) n (c.κ id) (by have := hO.len; omega) vx hsrc'
      have hst := step_setOb hi (ob' := ⟨ob.xs ++ [], ob.sh⟩) hcH rfl (by simp) (by simpa using hO.len) (o := ob.sh * c.σ id) (vs := []) (Nat.le_refl _)
        (fun i y hy => by simp only [List.append_nil] at hy; exact hO.row i y hy) (fun i y hy => by simp only [List.append_nil] at hy; exact hO.shd i y hy)
      refine ⟨_, c.setOb id ⟨ob.xs ++ [], ob.sh⟩ (ob.sh * c.σ id) [], hrun, hst.1, hst.2, ?_, [id], by simp [ids], HStep.set H c.H _ hob⟩
      simp only [Rep, IsSlice]
      refine ⟨⟨_, _, _, rfl⟩, ⟨ob.xs ++ [], ob.sh⟩, upd_same .., by simp; omega, fun _ => ?_⟩
      simp
      exact ⟨rfl, rfl⟩
    have hypos : 0 < ys.length := List.length_pos_iff.2 hy0
    by_cases hcase : n + ys.length ≤ c.κ id
    · have hn0 : n ≠ 0 := fun e => by
        have := hO.emp (List.eq_nil_of_length_eq_zero (by omega))
        omega
      have hs1 := hσ hn0
      have hbig : (n + ys.length) * ei.size ≤ cur.size := by
        have := Nat.mul_le_mul_right ei.size hcase
        rw [hs1] at b2
        omega
      rw [Nat.add_mul] at hbig
      have hsome : ∀ j, j < news.length → (c.w.cell? ⟨c.η id, n * ei.size + j, none⟩).isSome = true := fun j hj => by
        rw [cell?_heap b1]; simp; omega
      have hrun := run_append_room_src (ty := ty) c.w st tx e info hust k1 (c.η id) 0 n (c.κ id) vx ys.length news hsrc' hcase (fun j hj => by rw [hisz, Nat.zero_add]; exact hsome j hj) (fun j hj => by rw [hisz, Nat.zero_add]; exact b3 _ (by omega))
      rw [hisz, Nat.zero_add] at hrun
      have hst := step_setOb hi (ob' := ⟨ob.xs ++ ys, ob.sh⟩) hcH rfl (by simp) (by simp; omega) (o := n * ei.size) (vs := news) (by rw [hs1]; exact Nat.mul_le_mul_right _ (by have := hO.sh; omega))
        (fun i y hy => by
          rcases Nat.lt_or_ge i ob.xs.length with g | g
          · rw [List.getElem?_append_left g] at hy
            obtain ⟨m0, m1⟩ := hO.row i y hy
            refine ⟨m0, fun j q hq => ?_⟩
            obtain ⟨m2, u, m3, m4⟩ := m1 j q hq
            refine ⟨m2, u, ?_, m4⟩
            rw [setCells_out]
            · exact m3
            · left
              have hj : j < c.σ id := by have := (List.getElem?_eq_some_iff.1 hq).1; omega
              have := Nat.mul_le_mul_right ei.size (show i + 1 ≤ n by omega)
              rw [Nat.add_mul] at this
              rw [hs1] at hj ⊢
              omega
          · rw [List.getElem?_append_right g] at hy
            have hyl := hlen y (List.mem_of_getElem? hy)
            refine ⟨by rw [hs1]; exact hyl, fun j q hq => ⟨hlf y (List.mem_of_getElem? hy) q (List.mem_of_getElem? hq), ?_⟩⟩
            obtain ⟨u, u1, u2⟩ := hrep.get _ _ (flatten_get hlen _ j y hy q hq)
            refine ⟨u, ?_, u2⟩
            have := setCells_in hsome u1
            rw [hs1]
            have e1 : n * ei.size + ((i - ob.xs.length) * ei.size + j) = i * ei.size + j := by
              rw [← Nat.add_assoc, ← Nat.add_mul, show n + (i - ob.xs.length) = i by omega]
            rwa [e1] at this)
        (fun i y hy hlt => by
          have hlt' : i < ob.sh := hlt
          rw [List.getElem?_append_left (by have := hO.sh; omega)] at hy
          exact hO.shd i y hy hlt')
      refine ⟨_, c.setOb id ⟨ob.xs ++ ys, ob.sh⟩ (n * ei.size) news, hrun, hst.1, hst.2, ?_, [id], by simp [ids], HStep.set H c.H _ hob⟩
      simp only [Rep, IsSlice]
      refine ⟨⟨_, _, _, rfl⟩, ⟨ob.xs ++ ys, ob.sh⟩, upd_same .., by simp; omega, fun _ => rfl⟩
    · -- a new row
      have hOf : Rows c (c.σ id) ob.xs (c.η id) 0 := fun i y hy => ⟨(hO.row i y hy).1, by rw [Nat.zero_add]; exact hO.rowAt hy⟩
      have hlenO : ∀ y ∈ ob.xs, y.length = ei.size := fun y hy => by
        obtain ⟨i, hiy⟩ := List.mem_iff_getElem?.1 hy
        have h1 := (hO.row i y hiy).1
        have : n ≠ 0 := by have := (List.getElem?_eq_some_iff.1 hiy).1; omega
        rw [← hσ this]; exact h1
      obtain ⟨olds, o1, o2⟩ := hOf.flat.values
      have holen : olds.length = n * ei.size := by rw [o1.length, flatten_length hlenO, hn]
      have hold : (Builtin.firstCells info.size n (.slice (some ⟨c.η id, 0, none⟩) n (c.κ id))).run P c.w.drew = .ok olds.toArray c.w.drew :=
        run_firstCells_some c.w.drew info.size n _ n _ olds (by rw [hisz]; exact holen) (fun j u hj => by rw [add_none]; exact o2 j u hj)
      have hrun := run_append_grow_src (ty := ty) c.w st tx e info z hust k1 k2 (some ⟨c.η id, 0, none⟩) n (c.κ id) olds hold vx ys.length news hsrc' (by omega) (by omega) (growslice_fits (by omega) (by rw [hiby]; omega))
      obtain ⟨g1, g2⟩ := grownCap_bounds c.w (old := c.κ id) e hroom.2
      obtain ⟨s1, i1⟩ := step_drew hi
      have hst2 := step_newOb (c := c.at_ c.w.drew) i1 (n := id) (ob := ⟨ob.xs ++ ys, ob.sh⟩) (cur := (olds ++ news).toArray ++ Builtin.zeroCells z.cells (grownCap c.w (n + ys.length) (c.κ id) e - (n + ys.length))) (T := e) (cap := grownCap c.w (n + ys.length) (c.κ id) e) (sz := ei.size)
        (fun ob0 h0 => by
          have h0' : c.H id = some ob0 := h0
          rw [hcH] at h0'; injection h0' with h0'; subst h0'
          simp; omega) (by simp; have := hO.sh; omega) (fun i y hy hlt => by
          have hlt' : i < ob.sh := hlt
          have hy' : (ob.xs ++ ys)[i]? = some y := hy
          rw [List.getElem?_append_left (by have := hO.sh; omega)] at hy'
          exact hO.shd i y hy' hlt') (fun e => by
          have : (ob.xs ++ ys).length = 0 := by have e' : ob.xs ++ ys = [] := e; rw [e']; rfl
          simp at this
          exact absurd this.2 hy0) (by simp; omega) g2
        (by simp [zeroCells_size, hzs, hnl, holen]; rw [← Nat.add_mul, ← Nat.add_mul]; exact Nat.mul_le_mul_right _ (by omega))
        (fun i y hy => by
          have hy' : (ob.xs ++ ys)[i]? = some y := hy
          rcases Nat.lt_or_ge i ob.xs.length with g | g
          · rw [List.getElem?_append_left g] at hy'
            obtain ⟨m0, m1⟩ := hO.row i y hy'
            refine ⟨hlenO y (List.mem_of_getElem? hy'), fun j q hq => ?_⟩
            obtain ⟨m2, _⟩ := m1 j q hq
            obtain ⟨u, u1, u2⟩ := o1.get _ _ (flatten_get hlenO i j y hy' q hq)
            refine ⟨m2, u, ?_, u2.mono s1.le⟩
            have hlt : i * ei.size + j < olds.length := (List.getElem?_eq_some_iff.1 u1).1
            rw [Array.getElem?_append_left (by simp; omega)]
            simp only [List.getElem?_toArray]
            rw [List.getElem?_append_left hlt]
            exact u1
          · rw [List.getElem?_append_right g] at hy'
            obtain ⟨r1, r2⟩ := hrowNew olds n (Builtin.zeroCells z.cells (grownCap c.w (n + ys.length) (c.κ id) e - (n + ys.length))) holen _ y hy'
            refine ⟨r1, fun j q hq => ?_⟩
            obtain ⟨m1, u, m2, m3⟩ := r2 j q hq
            refine ⟨m1, u, ?_, m3.mono s1.le⟩
            rw [show n + (i - ob.xs.length) = i by omega] at m2
            exact m2)
      refine ⟨_, _, hrun, s1.trans hst2.1, hst2.2, ?_, [id], by simp [ids], HStep.set H c.H _ hob⟩
      simp only [Rep, IsSlice]
      refine ⟨⟨_, _, _, rfl⟩, ⟨ob.xs ++ ys, ob.sh⟩, upd_same .., by simp; omega, fun _ => ?_⟩
      show _ = Value.slice (some ⟨upd c.η id c.w.drew.heap.size id, 0, none⟩) (n + ys.length) (upd c.κ id _ id)
      rw [upd_same, upd_same]
      rfl
  | _ => cases h

end
end Go.Cv
