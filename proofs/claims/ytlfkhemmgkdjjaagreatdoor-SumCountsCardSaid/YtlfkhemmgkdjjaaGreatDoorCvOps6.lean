/- Operations that bring a new object: alloc, box, a slice's literal. -/
import Derived.Test.YtlfkhemmgkdjjaaGreatDoorCvApp2
import Derived.Great.BuildSlice
set_option linter.unusedSimpArgs false
set_option linter.unusedVariables false
namespace Go.Cv
open Go.RowKit

section
variable {P : Program} {E : Env} {c : Ctx}

/-- The objects after it: those before it and, from number n on, the new ones. -/
def New (f f' : Nat → Option Ob) (n : Nat) (new : List Ob) : Prop := ∀ i, f' i = if n ≤ i ∧ i < n + new.length then new[i - n]? else f i

theorem New.nil (f : Nat → Option Ob) (n : Nat) : New f f n [] := fun i => by rw [if_neg (by simp)]
theorem New.one (f : Nat → Option Ob) (n : Nat) (ob : Ob) : New f (upd f n (some ob)) n [ob] := fun i => by
  by_cases h : i = n
  · subst h; simp
  · rw [upd_ne _ _ h, if_neg (by simp; omega)]

/-- An operation's value, and what it brings along. -/
def Brings (P : Program) (E : Env) (c : Ctx) (s : Sem Value) (d : D) (n : Nat) (new : List Ob) : Prop :=
  ∃ v c', s.run P c.w = .ok v c'.w ∧ Step c c' ∧ Inv E c' ∧ Rep c' d v ∧ New c.H c'.H n new

theorem Gives.brings (hi : Inv E c) {s : Sem Value} {d : D} (h : Gives P c s d) (n : Nat) : Brings P E c s d n [] := by
  obtain ⟨v, h1, h2⟩ := h
  exact ⟨v, c, h1, Step.refl c, hi, h2, New.nil _ _⟩

theorem run_newRow (w : World) (e : TypeId) (cells : Array Value) : (newRow e cells).run P w = .ok ⟨w.heap.size, 0, none⟩ (w.alloc (.cells cells e)) := by
  simp [newRow]

/-- One new object of one row. -/
theorem newVar_brings (hi : Inv E c) {n : Nat} (hn : c.H n = none) {row : List D} {cells : Array Value} (hr : RepL c row cells.toList) (hl : row.all leaf = true) (t : TypeId) :
    ∃ c', c'.w = c.w.alloc (.cells cells t) ∧ Step c c' ∧ Inv E c' ∧ Rep c' (.ptr n 1 0 0) (.pointer (some ⟨c.w.heap.size, 0, none⟩)) ∧ New c.H c'.H n [⟨[row], 0⟩] := by
  have hsz : cells.size = row.length := by have := hr.length; simpa using this
  have hst := step_newOb hi (n := n) (ob := ⟨[row], 0⟩) (cur := cells) (T := t) (cap := 1) (sz := row.length)
    (fun ob0 h0 => by rw [hn] at h0; cases h0) (by simp) (fun i y _ hlt => by simp at hlt) (fun e => by simp at e) (by simp) (by simp [maxLen]) (by omega)
    (fun i x hx => by
      have hx' : ([row] : List (List D))[i]? = some x := hx
      cases i with
      | succ i => simp at hx'
      | zero =>
        simp at hx'
        subst hx'
        refine ⟨rfl, fun j d hd => ⟨List.all_eq_true.1 hl d (List.mem_of_getElem? hd), ?_⟩⟩
        obtain ⟨u, u1, u2⟩ := hr.get j d hd
        exact ⟨u, by simpa using u1, u2⟩)
  refine ⟨c.newOb n ⟨[row], 0⟩ cells t 1 row.length, rfl, hst.1, hst.2, ?_, New.one _ _ _⟩
  simp only [Rep, IsPtr]
  refine ⟨⟨_, rfl⟩, ⟨[row], 0⟩, upd_same .., by simp, fun _ => ?_⟩
  show _ = Value.pointer (some ⟨upd c.η n c.w.heap.size n, 0 * _ + 0, none⟩)
  rw [upd_same]
  simp

theorem alloc_brings (hi : Inv E c) (hE : EnvOK P E) {t : TypeId} {i : TI} (ht : E.ti t = some i) (hz : i.zero.length = i.size) (hs : i.size ≠ 0) (hl : i.zero.all leaf = true) {n : Nat} (hn : c.H n = none) :
    Brings P E c (Instr.alloc t true (.tuple #[])) (.ptr n 1 0 0) n [⟨[i.zero], 0⟩] := by
  obtain ⟨info, z, k1, k2, k3⟩ := zero_rep (c := c) (hE.ti t i ht) hz hs
  obtain ⟨c', h1, h2, h3, h4, h5⟩ := newVar_brings hi hn k3 hl t
  refine ⟨_, c', ?_, h2, h3, h4, h5⟩
  rw [h1]
  simp [Instr.alloc, zeroValue, typeInfo, k1, k2, newVar, run_newRow]

theorem box_brings (hi : Inv E c) {x : D} {v : Value} (hv : Rep c x v) (hl : (cellsOf x).all leaf = true) (t : TypeId) {n : Nat} (hn : c.H n = none) :
    Brings P E c (Instr.box t v) (.ptr n 1 0 0) n [⟨[cellsOf x], 0⟩] := by
  obtain ⟨c', h1, h2, h3, h4, h5⟩ := newVar_brings hi hn (cells_rep hv hl).1 hl t
  refine ⟨_, c', ?_, h2, h3, h4, h5⟩
  rw [h1]
  simp [Instr.box, newVar, run_newRow]

/-! ### A slice's literal -/
theorem flatten_set {sz : Nat} : (rows : List (List D)) → (∀ x ∈ rows, x.length = sz) → (i : Nat) → i < rows.length → (x : List D) → x.length = sz → splice rows.flatten (i * sz) x = (rows.set i x).flatten
  | [], _, _, h, _, _ => by simp at h
  | y :: rows, hr, 0, _, x, hx => by
    have hy := hr y (by simp)
    simp [splice, hx, ← hy]
  | y :: rows, hr, i + 1, h, x, hx => by
    have hy := hr y (by simp)
    have ih := flatten_set rows (fun z hz => hr z (by simp [hz])) i (by simpa using h) x hx
    simp only [List.set_cons_succ, List.flatten_cons]
    rw [← ih]
    unfold splice
    have e1 : (i + 1) * sz = y.length + i * sz := by rw [Nat.add_mul, hy]; omega
    have e2 : (i + 1) * sz + x.length = y.length + (i * sz + x.length) := by omega
    rw [e2, e1, List.take_length_add_append, List.drop_length_add_append]
    simp [List.append_assoc]

theorem fillRows_fillD {sz : Nat} : (parts : List (Nat × D)) → (rows r : List (List D)) → (∀ x ∈ rows, x.length = sz) → fillRows rows sz parts = some r →
    fillD (fun i => some (i * sz, sz)) rows.flatten parts = some r.flatten ∧ (∀ x ∈ r, x.length = sz) ∧ r.length = rows.length
  | [], rows, r, hr, h => by
    simp only [fillRows, Option.some.injEq] at h
    subst h
    exact ⟨rfl, hr, rfl⟩
  | (i, v) :: rest, rows, r, hr, h => by
    simp only [fillRows] at h
    split at h
    case isFalse => cases h
    rename_i hc
    obtain ⟨h1, h2, h3⟩ := hc
    obtain ⟨k1, k2, k3⟩ := fillRows_fillD rest _ r (fun x hx => by
      rcases List.mem_or_eq_of_mem_set hx with g | g
      · exact hr x g
      · rw [g]; exact h1) h
    refine ⟨?_, k2, by simpa using k3⟩
    simp only [fillD]
    rw [if_pos ⟨h1, by
      rw [flatten_length hr]
      have := Nat.mul_le_mul_right sz (show i + 1 ≤ rows.length by omega)
      rw [Nat.add_mul] at this
      omega, h3⟩, flatten_set rows hr i h2 _ h1]
    exact k1

theorem fillRows_leaf {sz : Nat} : (parts : List (Nat × D)) → (rows r : List (List D)) → (∀ x ∈ rows, x.all leaf = true) → fillRows rows sz parts = some r → ∀ x ∈ r, x.all leaf = true
  | [], rows, r, hr, h => by
    simp only [fillRows, Option.some.injEq] at h
    subst h
    exact hr
  | (i, v) :: rest, rows, r, hr, h => by
    simp only [fillRows] at h
    split at h
    case isFalse => cases h
    rename_i hc
    exact fillRows_leaf rest _ r (fun x hx => by
      rcases List.mem_or_eq_of_mem_set hx with g | g
      · exact hr x g
      · rw [g]; exact hc.2.2) h

theorem zeros_rep {zero : List D} {z : Array Value} (h : RepL c zero z.toList) (len : Nat) : RepL c (List.replicate len zero).flatten ((Array.range (len * zero.length)).map (z[· % z.size]!)).toList := by
  have hsz : z.size = zero.length := by have := h.length; simpa using this
  refine RepL.of (by simp) fun j d u hd hu => ?_
  rcases Nat.eq_zero_or_pos zero.length with g | g
  · have : zero = [] := List.eq_nil_of_length_eq_zero g
    subst this
    simp at hd
  have hlt : j < len * zero.length := by have := (List.getElem?_eq_some_iff.1 hd).1; simpa using this
  have hmod : j % zero.length < zero.length := Nat.mod_lt _ g
  have hdiv : j / zero.length < len := Nat.div_lt_of_lt_mul (by rw [Nat.mul_comm]; exact hlt)
  obtain ⟨x, hx⟩ : ∃ x, zero[j % zero.length]? = some x := ⟨_, List.getElem?_eq_getElem hmod⟩
  have hfl := flatten_get (rows := List.replicate len zero) (sz := zero.length) (fun y hy => by rw [List.eq_of_mem_replicate hy]) (j / zero.length) (j % zero.length) zero (by simp [List.getElem?_replicate, hdiv]) x hx
  rw [show j / zero.length * zero.length + j % zero.length = j by rw [Nat.mul_comm]; exact Nat.div_add_mod j _] at hfl
  rw [hfl] at hd
  injection hd with hd
  subst hd
  obtain ⟨u', k1, k2⟩ := h.get _ _ hx
  have : ((Array.range (len * zero.length)).map (z[· % z.size]!)).toList[j]? = some (z[j % z.size]!) := by
    simp [hlt]
  rw [this] at hu
  injection hu with hu
  subst hu
  rw [hsz]
  have e : z[j % zero.length]? = some u' := by simpa using k1
  rw [getElem!_def, e]
  exact k2

theorem view1_free {H : Heap} {d d' : D} (h : view1 H d = some d') (hf : idFree d = true) : (d = .emp ∧ d' = .slc []) ∨ d' = d := by
  unfold view1 at h
  split at h
  · injection h with h; exact .inl ⟨rfl, h.symm⟩
  · simp [idFree] at hf
  · simp [idFree] at hf
  · injection h with h; exact .inr h.symm

theorem viewL_get {H : Heap} : {l l' : List D} → viewL H l = some l' → l'.length = l.length ∧ ∀ (i : Nat) (d' : D), l'[i]? = some d' → ∃ d, l[i]? = some d ∧ view1 H d = some d'
  | [], l', h => by simp only [viewL, Option.some.injEq] at h; subst h; exact ⟨rfl, fun i d' h => by simp at h⟩
  | d :: l, l', h => by
    simp only [viewL] at h
    split at h
    · rename_i x xs h1 h2
      injection h with h
      subst h
      obtain ⟨k1, k2⟩ := viewL_get h2
      refine ⟨by simp [k1], fun i d' hd => ?_⟩
      cases i with
      | zero => simp at hd; subst hd; exact ⟨d, rfl, h1⟩
      | succ i => simpa using k2 i d' (by simpa using hd)
    · cases h

theorem canonRows_get {H : Heap} : {l l' : List (List D)} → canonRows H l = some l' → l'.length = l.length ∧ ∀ (i : Nat) (x' : List D), l'[i]? = some x' → ∃ x, l[i]? = some x ∧ viewL H x = some x'
  | [], l', h => by simp only [canonRows, Option.some.injEq] at h; subst h; exact ⟨rfl, fun i d' h => by simp at h⟩
  | d :: l, l', h => by
    simp only [canonRows, canonRow] at h
    split at h
    · rename_i x xs h1 h2
      injection h with h
      subst h
      obtain ⟨k1, k2⟩ := canonRows_get h2
      refine ⟨by simp [k1], fun i d' hd => ?_⟩
      cases i with
      | zero => simp at hd; subst hd; exact ⟨d, rfl, h1⟩
      | succ i => simpa using k2 i d' (by simpa using hd)
    · cases h

theorem idFreeL_mem {l : List D} (h : idFreeL l = true) : ∀ d ∈ l, idFree d = true := by
  induction l with
  | nil => intro d hd; simp at hd
  | cons x l ih =>
    simp only [idFreeL, Bool.and_eq_true] at h
    intro d hd
    rcases List.mem_cons.1 hd with rfl | hd
    · exact h.1
    · exact ih h.2 d hd

theorem buildSlice_brings (hi : Inv E c) (hE : EnvOK P E) {H : Heap} {t e : TypeId} {ei : TI} {ag sz by_ zr} (ht : E.ti t = some ⟨ag, sz, by_, zr, .slice e⟩) (he : E.ti e = some ei) {len : Nat} (hbig : ¬ len * ei.size > 16777216) (hz : ei.zero.length = ei.size) (hs : ei.size ≠ 0)
    (hl : ei.zero.all leaf = true) {parts : Array (Nat × Operand)} {ρ : Operand → D} {a : Act} (hp : ∀ q ∈ parts.toList, Rep c (ρ q.2) (a.eval q.2)) {rows : List (List D)}
    (hr : fillRows (List.replicate len ei.zero) ei.size (parts.toList.map fun p => (p.1, ρ p.2)) = some rows) {n : Nat} {kp : Bool} {d : D} {new : List Ob} (hn : 0 < new.length → c.H n = none)
    (h : (if kp || !rowFree rows then some (D.arr n len, [(⟨rows, 0⟩ : Ob)]) else match canonRows H rows with
            | some rows => some (.slc rows, [])
            | none => none) = some (d, new)) :
    Brings P E c (Instr.buildSlice t len (parts.map fun (j, x) => (j, a.eval x))) d n new := by
  have hu := under_slice (hE.ti t _ ht) rfl
  have hei' := hE.ti e ei he
  obtain ⟨info, z, k1, k2, k3⟩ := zero_rep (c := c) hei' hz hs
  have hisz : info.size = ei.size := by
    obtain ⟨inf2, u, q1, q2, q3, _⟩ := mkTI_spec hei'
    rw [k1] at q1; injection q1 with q1; subst q1; exact q3.symm
  have hzs : z.cells.size = ei.size := by have := k3.length; simp at this; omega
  obtain ⟨f1, f2, f3⟩ := fillRows_fillD _ _ rows (fun x hx => by rw [List.eq_of_mem_replicate hx]; exact hz) hr
  have f4 := fillRows_leaf _ _ rows (fun x hx => by rw [List.eq_of_mem_replicate hx]; exact hl) hr
  rw [List.length_replicate] at f3
  have hzr := zeros_rep k3 len
  obtain ⟨cells, g1, g2⟩ := fill_rep (c := c) (fun i => some (i * ei.size, ei.size)) (parts.toList.map fun p => (p.1, ρ p.2)) (parts.toList.map fun p => (p.1, a.eval p.2)) _ _ _
    (by simp) (fun j p q hj hq => by
      simp only [List.getElem?_map, Option.map_eq_some_iff] at hj hq
      obtain ⟨x, hx, rfl⟩ := hj
      obtain ⟨y, hy, rfl⟩ := hq
      rw [hx] at hy; injection hy with hy; subst hy
      exact hp x (List.mem_of_getElem? hx)) hzr f1
  have hrun : (Instr.buildSlice t len (parts.map fun (j, x) => (j, a.eval x))).run P c.w = .ok (.slice (some ⟨c.w.heap.size, 0, none⟩) len len) (c.w.alloc (.cells cells e)) := by
    rcases Nat.eq_zero_or_pos len with g | g
    · subst g
      have : rows = [] := List.eq_nil_of_length_eq_zero f3
      subst this
      have hc0 : cells = #[] := by have := g2.length; simpa using this
      subst hc0
      have hm : ∀ f : Nat → Value, Array.map f (Array.range 0) = #[] := fun f => Array.eq_empty_of_size_eq_zero (by simp)
      have g1' : Instr.fill (fun i => some (i * ei.size, ei.size)) #[] (parts.toList.map fun p => (p.1, a.eval p.2)) = some #[] := by simpa [hm] using g1
      simp [Instr.buildSlice, run_underlying hu, sizeOf, typeInfo, zeroValue, k1, newRow, hisz, hm, g1']
    · have hpos : ¬ len * ei.size = 0 := by
        intro hh
        rcases Nat.mul_eq_zero.1 hh with q | q
        · omega
        · exact hs q
      refine run_buildSlice c.w t e len _ cells info z hu k1 k2 (by rw [hisz]; exact hbig) (by rw [hisz]; exact hpos) ?_
      rw [hisz]
      rw [← hz] at g1 ⊢
      simpa using g1
  have hcs : cells.size = len * ei.size := by
    have := g2.length
    rw [flatten_length f2, f3] at this
    simpa using this
  have hlenle : len ≤ maxLen := by
    have := Nat.mul_le_mul_left len (Nat.one_le_iff_ne_zero.2 hs)
    simp only [maxLen]
    omega
  split at h
  · injection h with h
    simp only [Prod.mk.injEq] at h
    obtain ⟨rfl, rfl⟩ := h
    have hst := step_newOb hi (n := n) (ob := ⟨rows, 0⟩) (cur := cells) (T := e) (cap := len) (sz := ei.size)
      (fun ob0 h0 => by rw [hn (by simp)] at h0; cases h0) (by simp) (fun i y _ hlt => by simp at hlt) (fun e0 => by have : rows = [] := e0; rw [this] at f3; simpa using f3.symm) (by show rows.length ≤ len; omega) hlenle (by omega)
      (fun i x hx => by
        have hx' : rows[i]? = some x := hx
        refine ⟨f2 x (List.mem_of_getElem? hx'), fun j q hq => ⟨List.all_eq_true.1 (f4 x (List.mem_of_getElem? hx')) q (List.mem_of_getElem? hq), ?_⟩⟩
        obtain ⟨u, u1, u2⟩ := g2.get _ _ (flatten_get f2 i j x hx' q hq)
        exact ⟨u, by simpa using u1, u2⟩)
    refine ⟨_, c.newOb n ⟨rows, 0⟩ cells e len ei.size, hrun, hst.1, hst.2, ?_, New.one _ _ _⟩
    simp only [Rep, IsSlice]
    refine ⟨⟨_, _, _, rfl⟩, ⟨rows, 0⟩, upd_same .., by show len ≤ rows.length; omega, fun _ => ?_⟩
    show _ = Value.slice (some ⟨upd c.η n c.w.heap.size n, 0, none⟩) len (upd c.κ n len n)
    rw [upd_same, upd_same]
  · rename_i hk
    split at h
    case h_2 => cases h
    rename_i rows' hcan
    injection h with h
    simp only [Prod.mk.injEq] at h
    obtain ⟨rfl, rfl⟩ := h
    have hfree : rowFree rows = true := by
      cases hq : rowFree rows
      · simp [hq] at hk
      · rfl
    obtain ⟨c1, c2⟩ := canonRows_get hcan
    have hst := step_alloc hi (.cells cells e)
    refine ⟨_, c.at_ (c.w.alloc (.cells cells e)), hrun, hst.1, hst.2, ?_, New.nil _ _⟩
    simp only [Rep]
    refine ⟨_, _, _, rfl, by omega, Nat.le_refl _, hlenle, .inr ⟨c.w.heap.size, 0, ei.size, rfl, RepRows.of fun i x hx => ?_⟩⟩
    obtain ⟨x0, hx0, hv⟩ := c2 i x hx
    obtain ⟨v1, v2⟩ := viewL_get hv
    have hxl := f2 x0 (List.mem_of_getElem? hx0)
    refine ⟨by rw [v1]; exact hxl, RepCells.of fun j q hq => ?_⟩
    obtain ⟨q0, hq0, hv1⟩ := v2 j q hq
    have hfr := idFreeL_mem (List.all_eq_true.1 hfree x0 (List.mem_of_getElem? hx0)) q0 (List.mem_of_getElem? hq0)
    have hlf := List.all_eq_true.1 (f4 x0 (List.mem_of_getElem? hx0)) q0 (List.mem_of_getElem? hq0)
    obtain ⟨u, u1, u2⟩ := g2.get _ _ (flatten_get f2 i j x0 hx0 q0 hq0)
    have hcell : (c.at_ (c.w.alloc (.cells cells e))).w.cell? ⟨c.w.heap.size, 0 + i * ei.size + j, none⟩ = some u := by
      show (c.w.alloc _).cell? _ = _
      rw [cell_alloc_new, Nat.zero_add]
      simpa using u1
    have hnR : ¬ (c.at_ (c.w.alloc (.cells cells e))).R c.w.heap.size (0 + i * ei.size + j) := hi.new _ _ (Nat.le_refl _)
    rcases view1_free hv1 hfr with ⟨rfl, rfl⟩ | rfl
    · refine ⟨by simp [idFree], by simp [leaf], u, hcell, hnR, ?_⟩
      simp only [Rep] at u2 ⊢
      obtain ⟨a0, rfl⟩ := u2
      exact ⟨a0, 0, 0, rfl, rfl, Nat.le_refl _, by simp, .inl trivial⟩
    · exact ⟨hfr, hlf, u, hcell, hnR, u2.mono hst.1.le⟩

/-- make. -/
theorem makeSlice_brings (hi : Inv E c) (hE : EnvOK P E) {t e : TypeId} {ei : TI} {ag sz by_ zr} (ht : E.ti t = some ⟨ag, sz, by_, zr, .slice e⟩) (he : E.ti e = some ei) {len : Nat} (hz : ei.zero.length = ei.size) (hs : ei.size ≠ 0)
    (hl : ei.zero.all leaf = true) (hb : ei.bytes * len ≤ 140737488355328 ∧ len ≤ 140737488355328) {n : Nat} (hn : c.H n = none) {k1 k2 : IntKind} :
    Brings P E c (Instr.makeSlice t (.int k1 (len : Int)) (.int k2 (len : Int))) (.arr n len) n [⟨List.replicate len ei.zero, 0⟩] := by
  have hu := under_slice (hE.ti t _ ht) rfl
  have hei' := hE.ti e ei he
  obtain ⟨info, z, q1, q2, q3⟩ := zero_rep (c := c) hei' hz hs
  obtain ⟨inf2, u2, p1, _, p3, p4, _⟩ := mkTI_spec hei'
  rw [q1] at p1; injection p1 with p1; subst p1
  have hlen : len ≤ maxLen := by simp only [maxLen]; omega
  have hb' : (info.bytes : Int) * (len : Int) ≤ 281474976710656 := by
    rw [← p4]
    have : ((ei.bytes * len : Nat) : Int) ≤ 140737488355328 := by omega
    rw [Int.natCast_mul] at this
    omega
  have hr := run_make (P := P) c.w t e info z hu q1 q2 k1 k2 (len : Int) (len : Int) (by omega) (by omega) hb' (by omega)
  simp only [Int.toNat_natCast, ← p3] at hr
  have hzr := zeros_rep q3 len
  rw [hz] at hzr
  have f2 : ∀ x ∈ List.replicate len ei.zero, x.length = ei.size := fun x hx => by rw [List.eq_of_mem_replicate hx]; exact hz
  have hst := step_newOb hi (n := n) (ob := ⟨List.replicate len ei.zero, 0⟩) (cur := madeCells z.cells (len * ei.size)) (T := e) (cap := len) (sz := ei.size)
    (fun ob0 h0 => by rw [hn] at h0; cases h0) (by simp) (fun i y _ hlt => by simp at hlt) (fun e0 => by simpa using e0) (by simp) hlen (by rw [size_madeCells]; exact Nat.le_refl _)
    (fun i x hx => by
      have hx' : (List.replicate len ei.zero)[i]? = some x := hx
      have hxe := List.eq_of_mem_replicate (List.mem_of_getElem? hx')
      refine ⟨f2 x (List.mem_of_getElem? hx'), fun j q hq => ⟨List.all_eq_true.1 hl q (by rw [← hxe]; exact List.mem_of_getElem? hq), ?_⟩⟩
      obtain ⟨u, u1, u2⟩ := hzr.get _ _ (flatten_get f2 i j x hx' q hq)
      exact ⟨u, by rw [← Array.getElem?_toList]; exact u1, u2⟩)
  refine ⟨_, c.newOb n ⟨List.replicate len ei.zero, 0⟩ (madeCells z.cells (len * ei.size)) e len ei.size, hr, hst.1, hst.2, ?_, New.one _ _ _⟩
  simp only [Rep, IsSlice]
  refine ⟨⟨_, _, _, rfl⟩, ⟨List.replicate len ei.zero, 0⟩, upd_same .., by simp, fun _ => ?_⟩
  show _ = Value.slice (some ⟨upd c.η n c.w.heap.size n, 0, none⟩) len (upd c.κ n len n)
  rw [upd_same, upd_same]
end
end Go.Cv
