/- The rest of the operations that leave the world alone. -/
import Derived.Test.YtlfkhemmgkdjjaaGreatDoorCvOps2
import Derived.Laws.BytesArg
import Derived.Laws.BytesString
import Derived.Laws.Tables
set_option linter.unusedSimpArgs false
set_option linter.unusedVariables false
namespace Go.Cv
open Go.RowKit

section
variable {P : Program} {E : Env} {c : Ctx}

theorem fieldAddr_gives (hE : EnvOK P E) {s : TypeId} {i : TI} (hi : E.ti s = some i) {fi off size : Nat} {ag : Bool} (hp : placeD i.desc fi = some (off, size, ag)) (hs : size ≠ 0) {x d : D} {v : Value} (hv : Rep c x v)
    (h : (match x with | .ptr id m k o => some (D.ptr id m k (o + off)) | .eptr cells o => some (.eptr cells (o + off)) | _ => none) = some d) : Gives P c (Instr.fieldAt s v fi) d := by
  have hi' := hE.ti s i hi
  obtain ⟨fs, hd⟩ : ∃ fs, i.desc = .struct fs := by
    unfold placeD at hp
    split at hp
    · rename_i fs e; exact ⟨fs, e⟩
    · cases hp
  obtain ⟨gs, f, h1, h2, h3, h4, _⟩ := field_run hi' hd hp
  have hsz : (sizeOf f.type).run P c.w = .ok (P.cellsOf f.type) c.w := by
    cases hinf : P.info? f.type with
    | none => simp [Program.cellsOf, hinf] at h4; omega
    | some inf => exact run_sizeOf c.w hinf
  have hplace : ∀ a : Addr, (fieldPlace a f).run P c.w = .ok (a.add off) c.w := fun a => by
    unfold fieldPlace
    simp [hsz, h4, hs, h3]
  cases x with
  | ptr id m k o =>
    injection h with h
    subst h
    simp only [Rep, IsPtr] at hv
    obtain ⟨⟨a, rfl⟩, ob, k1, k2, k3⟩ := hv
    refine ⟨.pointer (some (a.add off)), by simp [Instr.fieldAt, run_underlying h1, h2, Instr.sureAddr, hplace], ?_⟩
    simp only [Rep, IsPtr]
    refine ⟨⟨_, rfl⟩, ob, k1, k2, fun e => ?_⟩
    have := k3 e
    injection this with this
    injection this with this
    subst this
    rw [add_none, Nat.add_assoc]
  | eptr cells o =>
    injection h with h
    subst h
    simp only [Rep] at hv
    obtain ⟨b, o', rfl, hr⟩ := hv
    refine ⟨.pointer (some ⟨b, o' + (o + off), none⟩), by simp [Instr.fieldAt, run_underlying h1, h2, Instr.sureAddr, hplace, add_none, Nat.add_assoc], ?_⟩
    simp only [Rep]
    exact ⟨b, o', rfl, hr⟩
  | _ => cases h

theorem indexAddr_slc_gives (hE : EnvOK P E) {t e : TypeId} {i ei : TI} (hi : E.ti t = some i) (hd : i.desc = .slice e) (hei : E.ti e = some ei) {xs : List (List D)} {cells : List D} {k : IntKind} {j : Int} (h0 : ¬ j < 0)
    (hx : xs[j.toNat]? = some cells) (hl : cells.length = ei.size) {v : Value} (hv : Rep c (.slc xs) v) : Gives P c (Instr.indexAt t v (.int k j)) (.eptr cells 0) := by
  have hu := under_slice (hE.ti t i hi) hd
  simp only [Rep] at hv
  obtain ⟨a, len, cap, rfl, hlen, hlc, hcm, hr⟩ := hv
  have hlt : j.toNat < xs.length := by
    rcases Nat.lt_or_ge j.toNat xs.length with k | k
    · exact k
    · rw [List.getElem?_eq_none k] at hx; cases hx
  rcases hr with hr | ⟨b, o, sz, rfl, hr⟩
  · subst hr; simp at hlt
  · obtain ⟨h1, h2⟩ := hr.get _ _ hx
    have : sz = ei.size := by omega
    subst this
    refine ⟨.pointer (some ⟨b, o + j.toNat * ei.size, none⟩), ?_, ?_⟩
    · have hj : 0 ≤ j ∧ j < (len : Int) := by omega
      simp [Instr.indexAt, asIntOf, run_underlying hu, hj, sizeOf_run (hE.ti e ei hei), add_none]
    · simp only [Rep]; exact ⟨b, o + j.toNat * ei.size, by simp, h2⟩

theorem indexAddr_arr_gives (hinv : Inv E c) (hE : EnvOK P E) {t e : TypeId} {i ei : TI} (hi : E.ti t = some i) (hd : i.desc = .slice e) (hei : E.ti e = some ei) {id m : Nat} {ob : Ob} (hc : c.H id = some ob) (hm : ob.xs.length = m) {row : List D} {k : IntKind} {j : Int} (h0 : ¬ j < 0)
    (hx : ob.xs[j.toNat]? = some row) (hl : row.length = ei.size) {v : Value} (hv : Rep c (.arr id m) v) : Gives P c (Instr.indexAt t v (.int k j)) (.ptr id m j.toNat 0) := by
  have hu := under_slice (hE.ti t i hi) hd
  simp only [Rep] at hv
  obtain ⟨hs, ob', h1, h2, h3⟩ := hv
  rw [hc] at h1
  injection h1 with h1
  subst h1
  rw [h3 hm.symm]
  have hlt : j.toNat < ob.xs.length := by
    rcases Nat.lt_or_ge j.toNat ob.xs.length with k | k
    · exact k
    · rw [List.getElem?_eq_none k] at hx; cases hx
  have hsz := ((hinv.ob id ob hc).row _ _ hx).1
  have : c.σ id = ei.size := by omega
  refine ⟨.pointer (some ⟨c.η id, j.toNat * ei.size, none⟩), ?_, ?_⟩
  · have hj : 0 ≤ j ∧ j < (m : Int) := by omega
    simp [Instr.indexAt, asIntOf, run_underlying hu, hj, sizeOf_run (hE.ti e ei hei), add_none]
  · simp only [Rep, IsPtr]
    exact ⟨⟨_, rfl⟩, ob, hc, by omega, fun _ => by rw [this]; simp⟩

theorem nilCheck_gives {x : D} {v : Value} (hv : Rep c x v) (hx : (∃ a b e f, x = .ptr a b e f) ∨ ∃ a b, x = .eptr a b) : ∃ a, v = .pointer (some a) := by
  rcases hx with ⟨a, b, e, f, rfl⟩ | ⟨a, b, rfl⟩ <;> simp only [Rep, IsPtr] at hv
  · exact hv.1
  · obtain ⟨b, o, hv, _⟩ := hv; exact ⟨_, hv⟩

theorem len_gives {x : D} {n : Nat} (h : lenD x = some n) {v : Value} (hv : Rep c x v) {t ty : TypeId} {u : TypeDesc} (hu : P.underlying t = some u) (hst : (∃ e, u = .slice e) ∨ u = .string) (hsx : (∃ s, x = .str s) ↔ u = .string)
    (hstale : ∀ id m, x = .arr id m → ∃ ob, c.H id = some ob ∧ ob.xs.length = m) (hstale2 : ∀ id m a b, x = .asl id m a b → ∃ ob, c.H id = some ob ∧ ob.xs.length = m) :
    Gives P c (Builtin.len_ #[t] ty #[v]) (.int .i64 n) := by
  cases x with
  | slc xs =>
    injection h with h
    simp only [Rep] at hv
    obtain ⟨a, len, cap, rfl, hl, _⟩ := hv
    rcases hst with ⟨e, rfl⟩ | rfl
    · exact ⟨_, by simp [Builtin.len_, run_underlying hu]; rfl, by simp [Rep, goInt, hl, h]⟩
    · obtain ⟨s, hs⟩ := hsx.2 rfl; cases hs
  | str s =>
    injection h with h
    simp only [Rep] at hv
    subst hv
    have : u = .string := hsx.1 ⟨s, rfl⟩
    subst this
    refine ⟨_, by simp [Builtin.len_, run_underlying hu]; rfl, ?_⟩
    simp only [Rep, goInt, Value.int.injEq, true_and]
    rw [← h]
    exact congrArg Nat.cast List.size_toArray
  | emp =>
    injection h with h
    simp only [Rep] at hv
    obtain ⟨a, rfl⟩ := hv
    rcases hst with ⟨e, rfl⟩ | rfl
    · exact ⟨_, by simp [Builtin.len_, run_underlying hu]; rfl, by simp [Rep, goInt, ← h]⟩
    · obtain ⟨s, hs⟩ := hsx.2 rfl; cases hs
  | arr id m =>
    injection h with h
    simp only [Rep] at hv
    obtain ⟨_, ob, h1, h2, h3⟩ := hv
    obtain ⟨ob', k1, k2⟩ := hstale id m rfl
    rw [h1] at k1; injection k1 with k1; subst k1
    rw [h3 k2.symm]
    rcases hst with ⟨e, rfl⟩ | rfl
    · exact ⟨_, by simp [Builtin.len_, run_underlying hu]; rfl, by simp [Rep, goInt, h]⟩
    · obtain ⟨s, hs⟩ := hsx.2 rfl; cases hs
  | asl id m lo hi =>
    injection h with h
    simp only [Rep] at hv
    obtain ⟨_, ob, h1, h2, _, _, h3⟩ := hv
    obtain ⟨ob', k1, k2⟩ := hstale2 id m lo hi rfl
    rw [h1] at k1; injection k1 with k1; subst k1
    obtain ⟨a, cap, rfl, _⟩ := h3 k2.symm
    rcases hst with ⟨e, rfl⟩ | rfl
    · exact ⟨_, by simp [Builtin.len_, run_underlying hu]; rfl, by simp [Rep, goInt, h]⟩
    · obtain ⟨s, hs⟩ := hsx.2 rfl; cases hs
  | _ => cases h

end
end Go.Cv
/- What is read of lists; conversions; the least, the greatest; structs that are built. -/
set_option linter.unusedSimpArgs false
set_option linter.unusedVariables false
namespace Go.Cv
open Go.RowKit

section
variable {P : Program} {E : Env} {c : Ctx}

/-- A slice of no byte is the empty text, wherever it lies. -/
theorem conv_zero (w : World) (src e : TypeId) (hs : P.underlying src = some (.slice e)) (he : P.underlying e = some (.int .u8)) (p : Option Addr) (n : Nat) {dst : TypeId} (hd : P.underlying dst = some .string) :
    (convert src dst (.slice p 0 n)).run P w = .ok (.string ByteArray.empty) w := by
  rw [run_convert_bytes_string w src dst e _ 0 n hs he hd]
  cases p <;> simp [Conv.bytesToString, loadCells] <;> rfl

/-- Rows in memory. -/
def Rows (c : Ctx) (sz : Nat) (rows : List (List D)) (b o : Nat) : Prop := ∀ (i : Nat) (x : List D), rows[i]? = some x → x.length = sz ∧ Row c b (o + i * sz) x

theorem RepRows.rows {sz : Nat} {rows : List (List D)} {b o : Nat} (h : RepRows c sz rows b o) : Rows c sz rows b o := fun i x hx => ⟨(h.get i x hx).1, (h.get i x hx).2.row⟩

/-- What a list is in memory. -/
theorem rows_mem (hinv : Inv E c) {H : Heap} {x : D} (hH : ∀ id ∈ ids x, ∀ ob, H[id]? = some ob → c.H id = some ob) {rows : List (List D)} (h : rowsOf H x = some rows) {v : Value} (hv : Rep c x v) :
    ∃ a len cap, v = .slice a len cap ∧ len = rows.length ∧ len ≤ cap ∧ cap ≤ maxLen ∧ (rows = [] ∨ ∃ b o sz, a = some ⟨b, o, none⟩ ∧ Rows c sz rows b o) := by
  cases x with
  | slc xs =>
    simp only [rowsOf, Option.some.injEq] at h
    subst h
    simp only [Rep] at hv
    obtain ⟨a, len, cap, rfl, h1, h2, h3, h4⟩ := hv
    refine ⟨a, len, cap, rfl, h1, h2, h3, ?_⟩
    rcases h4 with h4 | ⟨b, o, sz, ha, hr⟩
    · exact .inl h4
    · exact .inr ⟨b, o, sz, ha, hr.rows⟩
  | emp =>
    simp only [rowsOf, Option.some.injEq] at h
    subst h
    simp only [Rep] at hv
    obtain ⟨a, rfl⟩ := hv
    exact ⟨a, 0, 0, rfl, rfl, Nat.le_refl _, by simp, .inl rfl⟩
  | arr id n =>
    simp only [rowsOf] at h
    split at h
    case h_2 => cases h
    rename_i ob hob
    split at h
    case isFalse => cases h
    rename_i hn
    injection h with h
    subst h
    have hc := hH id (by simp [ids]) ob hob
    have hO := hinv.ob id ob hc
    simp only [Rep] at hv
    obtain ⟨_, ob', k1, k2, k3⟩ := hv
    rw [hc] at k1; injection k1 with k1; subst k1
    have hn' : ob.xs.length = n := by simpa using hn
    rw [k3 hn'.symm]
    refine ⟨_, _, _, rfl, hn'.symm, by have := hO.len; omega, hO.cap, .inr ⟨_, _, c.σ id, rfl, fun i y hy => ⟨(hO.row i y hy).1, ?_⟩⟩⟩
    rw [Nat.zero_add]
    exact hO.rowAt hy
  | asl id n lo hi =>
    simp only [rowsOf] at h
    split at h
    case h_2 => cases h
    rename_i ob hob
    split at h
    case isFalse => cases h
    rename_i hn
    injection h with h
    subst h
    have hc := hH id (by simp [ids]) ob hob
    have hO := hinv.ob id ob hc
    simp only [Rep] at hv
    obtain ⟨_, ob', k1, k2, k4, k5, k3⟩ := hv
    rw [hc] at k1; injection k1 with k1; subst k1
    have hn' : ob.xs.length = n := by simpa using hn
    obtain ⟨a, cap, rfl, q1, q2, q3⟩ := k3 hn'.symm
    refine ⟨_, _, _, rfl, by simp; omega, q1, q2, ?_⟩
    rcases q3 with q3 | q3
    · left; subst q3; rw [List.drop_eq_nil_iff]; simp; omega
    · right
      refine ⟨_, _, c.σ id, q3, fun i y hy => ?_⟩
      have hy' : ob.xs[lo + i]? = some y := by
        rw [List.getElem?_drop, List.getElem?_take] at hy
        split at hy
        · exact hy
        · cases hy
      refine ⟨(hO.row _ y hy').1, ?_⟩
      rw [← Nat.add_mul]
      exact hO.rowAt hy'
  | _ => cases h

theorem bytesOfRows_spec : (rows : List (List D)) → (s : List UInt8) → bytesOfRows rows = some s →
    ∃ ns : List Int, s = ns.map (fun n => UInt8.ofNat n.toNat) ∧ rows = ns.map (fun n => [D.int .u8 n])
  | [], s, h => by
    simp only [bytesOfRows, Option.some.injEq] at h
    exact ⟨[], by simp [← h], rfl⟩
  | x :: rows, s, h => by
    unfold bytesOfRows at h
    split at h
    · rename_i e; cases e
    · rename_i n l e
      injection e with e1 e2
      subst e1 e2
      simp only [Option.map_eq_some_iff] at h
      obtain ⟨s', h1, rfl⟩ := h
      obtain ⟨ns, h2, h3⟩ := bytesOfRows_spec _ _ h1
      exact ⟨n :: ns, by simp [h2], by simp [h3]⟩
    · cases h

theorem conv_bytes_gives (hinv : Inv E c) (hE : EnvOK P E) {src dst e : TypeId} {i j k : TI} (hi : E.ti src = some i) (hid : i.desc = .slice e) (hk : E.ti e = some k) (hkd : k.desc = .int .u8) (hj : E.ti dst = some j) (hjd : j.desc = .str)
    {H : Heap} {x : D} (hH : ∀ id ∈ ids x, ∀ ob, H[id]? = some ob → c.H id = some ob) {rows : List (List D)} (h : rowsOf H x = some rows) {s : List UInt8} (hs : bytesOfRows rows = some s) {v : Value} (hv : Rep c x v) :
    Gives P c (convert src dst v) (.str s) := by
  have hu := under_slice (hE.ti src i hi) hid
  have hue := under_int (hE.ti e k hk) hkd
  have hud := under_str (hE.ti dst j hj) hjd
  obtain ⟨a, len, cap, rfl, hl, _, _, hr⟩ := rows_mem hinv hH h hv
  obtain ⟨ns, rfl, rfl⟩ := bytesOfRows_spec _ _ hs
  rcases hr with hr | ⟨b, o, sz, rfl, hr⟩
  · have : ns = [] := by simpa using hr
    subst this
    have hz : len = 0 := by simpa using hl
    subst hz
    exact ⟨_, conv_zero c.w src e hu hue a cap hud, by simp [Rep]; rfl⟩
  · have hcell : ∀ i, i < len → c.w.cell? ⟨b, o + i, none⟩ = some (.int .u8 (ns.getD i 0)) := fun i hi => by
      have hi' : i < ns.length := by simpa [hl] using hi
      obtain ⟨h1, h2⟩ := hr i [.int .u8 ns[i]] (by simp [List.getElem?_map, List.getElem?_eq_getElem hi'])
      simp at h1
      subst h1
      obtain ⟨u, hu1, hu2⟩ := h2 0 _ rfl
      simp only [Rep] at hu2
      subst hu2
      simpa [List.getD, List.getElem?_eq_getElem hi'] using hu1
    refine ⟨_, run_convert_bytes_arg c.w src e hu hue b o len cap ns (by simpa using hl.symm) hcell dst hud, ?_⟩
    simp [Rep, strOfNums]

theorem conv_int_gives (hE : EnvOK P E) {src dst : TypeId} {i j : TI} (hi : E.ti src = some i) {k : IntKind} (hj : E.ti dst = some j) (hjd : j.desc = .int k) {k' : IntKind} {n : Int} :
    Gives P c (convert src dst (.int k' n)) (.int k (wr k n)) := by
  obtain ⟨info, u, h1, h2, _⟩ := mkTI_spec (hE.ti src i hi)
  have hud := under_int (hE.ti dst j hj) hjd
  refine ⟨.int k (k.wrap n), ?_, by simp [Rep, wr_eq]⟩
  unfold convert
  simp only [Sem.run_bind, run_underlying h2, run_underlying hud, Result.andThen_ok]
  cases u <;> simp [Conv.intToInt]

theorem conv_str_gives (hE : EnvOK P E) {src dst : TypeId} {i j : TI} (hi : E.ti src = some i) (hj : E.ti dst = some j) (hjd : j.desc = .str) {s : List UInt8} :
    Gives P c (convert src dst (.string ⟨s.toArray⟩)) (.str s) := by
  obtain ⟨info, u, h1, h2, _⟩ := mkTI_spec (hE.ti src i hi)
  have hud := under_str (hE.ti dst j hj) hjd
  refine ⟨.string ⟨s.toArray⟩, ?_, by simp [Rep]⟩
  unfold convert
  simp only [Sem.run_bind, run_underlying h2, run_underlying hud, Result.andThen_ok]
  cases u <;> simp

theorem makeIface_gives (hE : EnvOK P E) {t : TypeId} {i : TI} (hi : E.ti t = some i) (hd : i.desc ≠ .iface) {x : D} {v : Value} (hv : Rep c x v) : Gives P c (Instr.makeInterface t v) (.iface t x) := by
  obtain ⟨info, u, h1, h2, _, _, _, _, h7⟩ := mkTI_spec (hE.ti t i hi)
  refine ⟨.iface t v, ?_, by simp only [Rep]; exact ⟨v, rfl, hv⟩⟩
  unfold Instr.makeInterface
  simp only [Sem.run_bind, run_underlying h2, Result.andThen_ok]
  cases u <;> first
    | rfl
    | (exfalso; rw [h7] at hd; exact hd rfl)

theorem min_run : (l : List D) → (d : D) → (vs : List Value) → (v : Value) → (r : D) → minD d l = some r → Rep c d v → RepL c l vs → ∃ u, (vs.foldlM Builtin.min2 v).run P c.w = .ok u c.w ∧ Rep c r u
  | [], d, vs, v, r, h, hd, hl => by
    simp only [RepL] at hl
    subst hl
    have : r = d := by
      unfold minD at h
      split at h
      · rename_i e; cases e
      · injection h with h; exact h.symm
      · cases h
    subst this
    exact ⟨v, by simp, hd⟩
  | y :: l, d, vs, v, r, h, hd, hl => by
    unfold minD at h
    split at h
    · rename_i k a k' b rest e
      injection e with e1 e2
      subst e1
      subst e2
      split at h
      · rename_i ek
        subst ek
        simp only [RepL] at hl
        obtain ⟨u, us, rfl, h1, h2⟩ := hl
        simp only [Rep] at hd h1
        subst hd h1
        obtain ⟨u, k1, k2⟩ := min_run l (.int k (if b < a then b else a)) us (.int k (if b < a then b else a)) r h (by simp only [Rep]) h2
        exact ⟨u, by simp [Builtin.min2, k1], k2⟩
      · cases h
    · rename_i e; cases e
    · cases h

theorem max_run : (l : List D) → (d : D) → (vs : List Value) → (v : Value) → (r : D) → maxD d l = some r → Rep c d v → RepL c l vs → ∃ u, (vs.foldlM Builtin.max2 v).run P c.w = .ok u c.w ∧ Rep c r u
  | [], d, vs, v, r, h, hd, hl => by
    simp only [RepL] at hl
    subst hl
    have : r = d := by
      unfold maxD at h
      split at h
      · rename_i e; cases e
      · injection h with h; exact h.symm
      · cases h
    subst this
    exact ⟨v, by simp, hd⟩
  | y :: l, d, vs, v, r, h, hd, hl => by
    unfold maxD at h
    split at h
    · rename_i k a k' b rest e
      injection e with e1 e2
      subst e1
      subst e2
      split at h
      · rename_i ek
        subst ek
        simp only [RepL] at hl
        obtain ⟨u, us, rfl, h1, h2⟩ := hl
        simp only [Rep] at hd h1
        subst hd h1
        obtain ⟨u, k1, k2⟩ := max_run l (.int k (if b > a then b else a)) us (.int k (if b > a then b else a)) r h (by simp only [Rep]) h2
        exact ⟨u, by simp [Builtin.max2, k1], k2⟩
      · cases h
    · rename_i e; cases e
    · cases h

end
end Go.Cv
/- Structs that are built; fields. -/
set_option linter.unusedSimpArgs false
set_option linter.unusedVariables false
namespace Go.Cv
open Go.RowKit

section
variable {P : Program} {E : Env} {c : Ctx}

theorem cells_rep {d : D} {v : Value} (h : Rep c d v) (hl : (cellsOf d).all leaf = true) : RepL c (cellsOf d) v.cells.toList ∧ ∀ u ∈ v.cells.toList, u.oneCell' = true := by
  have one : ∀ (x : D) (u : Value), Rep c x u → leaf x = true → u.oneCell' = true := fun x u hr hx => by
    obtain ⟨h1, h2⟩ := hr.leaf hx
    cases u <;> first
      | rfl
      | exact absurd rfl (h1 _)
      | exact absurd rfl (h2 _)
  cases d with
  | agg cs =>
    simp only [Rep] at h
    obtain ⟨vs, rfl, hr⟩ := h
    refine ⟨hr, fun u hu => ?_⟩
    obtain ⟨i, hi, rfl⟩ := List.getElem_of_mem hu
    have hlen := hr.length
    have hi' : i < cs.length := by simpa [Value.cells] using (hlen ▸ hi)
    obtain ⟨u', h1, h2⟩ := hr.get i cs[i] (List.getElem?_eq_getElem hi')
    have hi2 : i < vs.toList.length := hi
    have this : vs.toList[i]? = some vs.toList[i] := List.getElem?_eq_getElem hi2
    rw [h1] at this
    injection this with this
    show (vs.toList[i]).oneCell' = true
    rw [← this]
    exact one _ _ h2 (List.all_eq_true.1 hl _ (List.getElem_mem hi'))
  | _ =>
    all_goals
      simp only [cellsOf, List.all_cons, List.all_nil, Bool.and_true] at hl
      obtain ⟨h1, h2⟩ := h.leaf hl
      have hc : v.cells = #[v] := by
        cases v <;> first
          | rfl
          | exact absurd rfl (h1 _)
      rw [hc]
      refine ⟨by simp only [cellsOf, RepL]; exact ⟨v, [], rfl, h, rfl⟩, fun u hu => ?_⟩
      simp at hu
      subst hu
      exact one _ _ h hl

theorem splice_list (cells : List Value) (off : Nat) (vs : List Value) : ∀ (done : List Value), off + done.length + vs.length ≤ cells.length →
    ∀ (cur : Array Value), cur.toList = cells.take off ++ done ++ cells.drop (off + done.length) →
    ((vs.zipIdx done.length).foldl (fun (cs : Array Value) (x : Value × Nat) => cs.setIfInBounds (off + x.2) x.1) cur).toList = cells.take off ++ (done ++ vs) ++ cells.drop (off + done.length + vs.length) := by
  induction vs with
  | nil => intro done _ cur h; simpa using h
  | cons v vs ih =>
    intro done hle cur h
    simp only [List.length_cons] at hle
    simp only [List.zipIdx_cons, List.foldl_cons]
    have := ih (done ++ [v]) (by simp; omega) (cur.setIfInBounds (off + done.length) v) (by
      rw [Array.toList_setIfInBounds, h]
      have hd : cells.drop (off + done.length) = cells[off + done.length]'(by omega) :: cells.drop (off + done.length + 1) := List.drop_eq_getElem_cons (by omega)
      rw [hd, List.set_append_right _ _ (by simp; omega)]
      simp [Nat.min_eq_left (show off ≤ cells.length by omega), Nat.add_assoc])
    simp only [List.length_append, List.length_singleton, List.append_assoc, List.singleton_append] at this
    simp only [List.length_cons, List.append_assoc]
    rw [this, show off + (done.length + 1) + vs.length = off + done.length + (vs.length + 1) by omega]

theorem fill_rep (places : Nat → Option (Nat × Nat)) : (parts : List (Nat × D)) → (vparts : List (Nat × Value)) → (cellsD r : List D) → (cells : Array Value) →
    parts.map (·.1) = vparts.map (·.1) → (∀ (j : Nat) (p : Nat × D) (q : Nat × Value), parts[j]? = some p → vparts[j]? = some q → Rep c p.2 q.2) → RepL c cellsD cells.toList → fillD places cellsD parts = some r →
    ∃ cells', Instr.fill places cells vparts = some cells' ∧ RepL c r cells'.toList
  | [], vparts, cellsD, r, cells, hk, _, hc, h => by
    have : vparts = [] := by simpa using hk.symm
    subst this
    simp only [fillD, Option.some.injEq] at h
    subst h
    exact ⟨cells, rfl, hc⟩
  | (i, x) :: parts, [], cellsD, r, cells, hk, _, _, _ => by simp at hk
  | (i, x) :: parts, (i', v) :: vparts, cellsD, r, cells, hk, hp, hc, h => by
    simp only [List.map_cons, List.cons.injEq] at hk
    obtain ⟨rfl, hk⟩ := hk
    simp only [fillD] at h
    split at h
    · cases h
    · rename_i off size hpl
      split at h
      case isFalse => cases h
      rename_i hcond
      obtain ⟨c1, c2, c3⟩ := hcond
      obtain ⟨r1, _⟩ := cells_rep (hp 0 (i, x) (i, v) rfl rfl) c3
      have hlen : v.cells.size = size := by have := r1.length; simp at this; omega
      have hcl : cells.size = cellsD.length := by have := hc.length; simpa using this
      have hfold := splice_list cells.toList off v.cells.toList [] (by simp; omega) cells (by simp)
      have hnew : RepL c (splice cellsD off (cellsOf x)) ((v.cells.zipIdx.foldl (fun (cs : Array Value) (y : Value × Nat) => cs.setIfInBounds (off + y.2) y.1) cells)).toList := by
        have e : (v.cells.zipIdx.foldl (fun (cs : Array Value) (y : Value × Nat) => cs.setIfInBounds (off + y.2) y.1) cells) = ((v.cells.toList.zipIdx 0).foldl (fun (cs : Array Value) (y : Value × Nat) => cs.setIfInBounds (off + y.2) y.1) cells) := by
          rw [← Array.foldl_toList]; simp
        rw [e]
        simp only [List.length_nil, Nat.add_zero, List.nil_append, List.append_nil] at hfold
        rw [hfold]
        unfold splice
        refine RepL.append (RepL.append ?_ r1) ?_
        · refine RepL.of (by simp [hcl]) fun j d u hd hu => ?_
          rw [List.getElem?_take] at hd hu
          split at hd
          · rename_i hj
            rw [if_pos hj] at hu
            obtain ⟨u', k1, k2⟩ := hc.get j d hd
            rw [hu] at k1; injection k1 with k1; subst k1; exact k2
          · cases hd
        · have hl2 : v.cells.toList.length = (cellsOf x).length := r1.length
          refine RepL.of (by simp [hcl]; simp at hl2; omega) fun j d u hd hu => ?_
          rw [List.getElem?_drop] at hd hu
          rw [hl2] at hu
          obtain ⟨u', k1, k2⟩ := hc.get _ d hd
          rw [hu] at k1; injection k1 with k1; subst k1; exact k2
      obtain ⟨cells', h1, h2⟩ := fill_rep places parts vparts _ r _ hk (fun j p q hj hq => hp (j + 1) p q (by simpa using hj) (by simpa using hq)) hnew h
      refine ⟨cells', ?_, h2⟩
      simp only [Instr.fill, hpl]
      rw [if_neg (by simp; omega)]
      exact h1

theorem zero_rep {t : TypeId} {i : TI} (hi : mkTI P t = some i) (hz : i.zero.length = i.size) (hs : i.size ≠ 0) : ∃ info z, P.info? t = some info ∧ info.zero = some z ∧ RepL c i.zero z.cells.toList := by
  obtain ⟨info, u, h1, h2, h3, _, _, h6, _⟩ := mkTI_spec hi
  cases hzz : info.zero with
  | none => rw [hzz] at h6; rw [h6] at hz; simp at hz; omega
  | some z =>
    refine ⟨info, z, h1, hzz, ?_⟩
    rw [hzz] at h6
    rw [h6]
    refine RepL.of (by simp) fun j d v hd hv => ?_
    simp only [List.getElem?_map, Option.map_eq_some_iff] at hd
    obtain ⟨x, hx, rfl⟩ := hd
    rw [hx] at hv
    injection hv with hv
    subst hv
    exact rep_ofVal0 c x

theorem build_gives (hE : EnvOK P E) {t : TypeId} {i : TI} (hi : E.ti t = some i) {fs : List (Nat × Nat × Bool)} (hd : i.desc = .struct fs) (hz : i.zero.length = i.size) (hs : i.size ≠ 0) {parts : Array (Nat × Operand)} {ρ : Operand → D} {a : Act}
    (hp : ∀ q ∈ parts.toList, Rep c (ρ q.2) (a.eval q.2)) {r : List D} (h : fillD (fun j => (fs[j]?).map fun p => (p.1, p.2.1)) i.zero (parts.toList.map fun p => (p.1, ρ p.2)) = some r) :
    Gives P c (Instr.build t (parts.map fun (j, x) => (j, a.eval x))) (.agg r) := by
  have hi' := hE.ti t i hi
  obtain ⟨gs, h1, hall, h2⟩ := under_struct hi' hd
  obtain ⟨info, z, k1, k2, k3⟩ := zero_rep (c := c) hi' hz hs
  have hpl : gs.toList.mapM (fun f => (P.info? f.type).map fun j => (f.offset, j.size)) = some (gs.toList.map fun f => (f.offset, P.cellsOf f.type)) := by
    clear h1 h2
    generalize gs.toList = l at hall
    induction l with
    | nil => rfl
    | cons f l ih =>
      obtain ⟨inf, hinf⟩ := Option.isSome_iff_exists.1 (hall f (by simp)).1
      simp only [List.mapM_cons, hinf, Option.map_some, List.map_cons, Program.cellsOf, Option.getD_some]
      rw [ih (fun g hg => hall g (by simp [hg]))]
      rfl
  obtain ⟨cells', f1, f2⟩ := fill_rep (c := c) (fun j => (fs[j]?).map fun p => (p.1, p.2.1)) (parts.toList.map fun p => (p.1, ρ p.2)) (parts.toList.map fun p => (p.1, a.eval p.2)) i.zero r z.cells
    (by simp) (fun j p q hj hq => by
      simp only [List.getElem?_map, Option.map_eq_some_iff] at hj hq
      obtain ⟨x, hx, rfl⟩ := hj
      obtain ⟨y, hy, rfl⟩ := hq
      rw [hx] at hy; injection hy with hy; subst hy
      exact hp x (List.mem_of_getElem? hx)) k3 h
  refine ⟨.agg cells', run_build c.w t _ _ ?_, by simp only [Rep]; exact ⟨cells', rfl, f2⟩⟩
  unfold Program.built
  simp only [k1, h1, k2, hpl]
  have e1 : (fun (x : Nat) => ((gs.toList.map fun f => (f.offset, P.cellsOf f.type)).toArray)[x]?) = fun (j : Nat) => (fs[j]?).map fun (p : Nat × Nat × Bool) => (p.1, p.2.1) := by
    funext j
    rw [h2]
    simp only [List.getElem?_toArray, List.getElem?_map, Option.map_map]
    rfl
  rw [e1]
  simpa using f1

theorem field_gives (hE : EnvOK P E) {s : TypeId} {i : TI} (hi : E.ti s = some i) {fi off size : Nat} {ag : Bool} (hp : placeD i.desc fi = some (off, size, ag)) {cs : List D} {d : D} {v : Value} (hv : Rep c (.agg cs) v) (hle : off + size ≤ cs.length)
    (h : (if ag then some (.agg ((cs.drop off).take size)) else cs[off]?) = some d) : Gives P c (Instr.field s v fi) d := by
  have hi' := hE.ti s i hi
  obtain ⟨fs, hd⟩ : ∃ fs, i.desc = .struct fs := by
    unfold placeD at hp
    split at hp
    · rename_i fs e; exact ⟨fs, e⟩
    · cases hp
  obtain ⟨gs, f, h1, h2, h3, h4, h5⟩ := field_run hi' hd hp
  obtain ⟨gs', h1', hall, _⟩ := under_struct hi' hd
  rw [h1] at h1'
  injection h1' with h1'
  injection h1' with h1'
  subst h1'
  obtain ⟨inf, hinf⟩ := Option.isSome_iff_exists.1 (hall f (List.mem_of_getElem? (by simpa using h2))).1
  simp only [Rep] at hv
  obtain ⟨vs, rfl, hr⟩ := hv
  have hund : ∃ u, P.underlying f.type = some u ∧ ag = (match u with | .struct _ | .array _ _ => true | _ => false) := by
    obtain ⟨u, hu⟩ := Option.isSome_iff_exists.1 (hall f (List.mem_of_getElem? (by simpa using h2))).2
    refine ⟨u, hu, ?_⟩
    rw [h5, hu]
    cases u <;> rfl
  obtain ⟨u, hu, hag⟩ := hund
  have hA : (isAgg f.type).run P c.w = .ok ag c.w := by
    unfold isAgg
    simp only [Sem.run_bind, run_underlying hu, Result.andThen_ok]
    rw [hag]
    cases u <;> simp
  have hS : (sizeOf f.type).run P c.w = .ok size c.w := by rw [run_sizeOf c.w hinf, h4]
  split at h
  · rename_i hg
    injection h with h
    subst h
    refine ⟨.agg (vs.extract off (off + size)), ?_, ?_⟩
    · simp [Instr.field, run_underlying h1, h2, asAgg, part, hA, hg, hS, h3]
    · simp only [Rep]
      refine ⟨_, rfl, RepL.of (by have := hr.length; simp at this ⊢; omega) fun j d x hd hx => ?_⟩
      rw [List.getElem?_take] at hd
      split at hd
      · rename_i hj
        rw [List.getElem?_drop] at hd
        obtain ⟨y, y1, y2⟩ := hr.get _ d hd
        have : (vs.extract off (off + size)).toList[j]? = vs.toList[off + j]? := by
          simp [List.getElem?_take, List.getElem?_drop, hj]
        rw [this, y1] at hx
        injection hx with hx
        subst hx
        exact y2
      · cases hd
  · rename_i hg
    obtain ⟨y, y1, y2⟩ := hr.get _ d h
    refine ⟨y, ?_, y2⟩
    simp only [Bool.not_eq_true] at hg
    have : vs[off]? = some y := by simpa using y1
    simp [Instr.field, run_underlying h1, h2, asAgg, part, hA, hg, h3, this]

end
end Go.Cv
