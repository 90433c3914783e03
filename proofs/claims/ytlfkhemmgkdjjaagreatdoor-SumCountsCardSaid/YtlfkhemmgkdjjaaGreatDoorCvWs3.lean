/- Steps on arrays under construction (of open length), on texts. -/
import Derived.Test.YtlfkhemmgkdjjaaGreatDoorCvRowd
set_option linter.unusedSimpArgs false
set_option linter.unusedVariables false
namespace Go.Cv
section
variable {E : Env} {call : CallF} {f fuel r : Nat} {Q : Ex → St → Prop} {s : St} {ops : Array Oper} {i n : Nat} {o : Oper} {l : List Oper} {τ : Nat → D} {H : Heap} {dr : Bool} {acc : List (Bool × List Nat)}

theorem WPS.lenArr {t : Tmp} {cl : Call} {x : Operand} {ty e : TypeId} {ag sz by_ zr} {id m : Nat} {ob : Ob} (ho : o.op = .call cl) (hcl : cl.callee = .builtin .len) (hargs : cl.args.toList = [x]) (hx : opd E (fnT n τ) x = .arr id m) (hg : wantD ops (fnT n τ) o = some true) (hw : touchOK dr E o (fnT n τ) H = true)
    (hts : cl.argTypes.toList = [ty]) (hti : E.ti ty = some ⟨ag, sz, by_, zr, .slice e⟩) (hob : H[id]? = some ob) (hm : ob.xs.length = m) (hd : o.dst = some t) (ht : t < n ∧ n ≤ 4000)
    (h : WPS dr E call f r ops (i + 1) l (acc ++ [(false, touch E o (opd E (fnT n τ)) H)]) Q (fnT n (upd τ t (.int .i64 m))) H) : WPS dr E call f r ops i (o :: l) acc Q (fnT n τ) H := by
  refine WPS.val' hg hw ?_ hd ht h
  unfold evPure
  rw [ho]
  simp [hcl, hargs, hts, hx, lenOK, hti, hob, hm, lenD]

theorem WPS.idxArr {t : Tmp} {ty e : TypeId} {x ix : Operand} {ag sz by_ zr} {ei : TI} {k : IntKind} {j : Int} {id m : Nat} {ob : Ob} {row : List D} (ho : o.op = .indexAddr ty x ix) (hx : opd E (fnT n τ) x = .arr id m) (hg : wantD ops (fnT n τ) o = some true) (hw : touchOK dr E o (fnT n τ) H = true) (hti : E.ti ty = some ⟨ag, sz, by_, zr, .slice e⟩) (hei : E.ti e = some ei)
    (hi : opd E (fnT n τ) ix = .int k j) (hob : H[id]? = some ob) (hm : ob.xs.length = m) (hd : o.dst = some t) (ht : t < n ∧ n ≤ 4000) (h0 : 0 ≤ j) (hlt : j.toNat < m) (hrow : ob.xs[j.toNat]? = some row) (hsz : row.length = ei.size)
    (h : WPS dr E call f r ops (i + 1) l (acc ++ [(false, touch E o (opd E (fnT n τ)) H)]) Q (fnT n (upd τ t (.ptr id m j.toNat 0))) H) : WPS dr E call f r ops i (o :: l) acc Q (fnT n τ) H := by
  refine WPS.val' hg hw ?_ hd ht h
  unfold evPure
  rw [ho]
  have h0' : ¬ j < 0 := by omega
  simp only [hti, hei, hx, hi, h0', hob, hm, hlt, hrow, hsz, if_false, if_true, beq_self_eq_true, Bool.and_self, decide_true, Bool.true_and]

theorem WPS.loadP {t : Tmp} {ty : TypeId} {a : Operand} {ti : TI} {id m j off : Nat} {ob : Ob} {row : List D} {d : D} (ho : o.op = .load ty a) (hx : opd E (fnT n τ) a = .ptr id m j off) (hg : wantD ops (fnT n τ) o = some true) (hw : touchOK dr E o (fnT n τ) H = true) (hti : E.ti ty = some ti)
    (hob : H[id]? = some ob) (hm : ob.xs.length = m) (hrow : ob.xs[j]? = some row) (hc : cellAt ti row off = some d) (hd : o.dst = some t) (ht : t < n ∧ n ≤ 4000)
    (h : WPS dr E call f r ops (i + 1) l (acc ++ [(false, touch E o (opd E (fnT n τ)) H)]) Q (fnT n (upd τ t d)) H) : WPS dr E call f r ops i (o :: l) acc Q (fnT n τ) H := by
  refine WPS.val' hg hw ?_ hd ht h
  unfold evPure
  rw [ho]
  simp [loadD, hti, hx, hob, hm, hrow, hc]

/-- Into an element of one cell. -/
theorem WPS.storeP {ty : TypeId} {a x : Operand} {ti : TI} {id m j : Nat} {ob : Ob} {y d : D} (ho : o.op = .store ty a x) (ha : opd E (fnT n τ) a = .ptr id m j 0) (hx : opd E (fnT n τ) x = d) (hg : wantD ops (fnT n τ) o = some true) (hw : touchOK dr E o (fnT n τ) H = true) (hti : E.ti ty = some ti) (hsz : ti.size = 1)
    (hob : H[id]? = some ob) (hm : ob.xs.length = m) (hsh : ob.sh = 0) (hrow : ob.xs[j]? = some [y]) (hc : cellsOf d = [d]) (hl : leaf d = true) (hd : o.dst = none)
    (h : WPS dr E call f r ops (i + 1) l (acc ++ [(true, touch E o (opd E (fnT n τ)) H)]) Q (fnT n τ) (H.set id ⟨ob.xs.set j [d], 0⟩)) : WPS dr E call f r ops i (o :: l) acc Q (fnT n τ) H := by
  have hk : kindO E f r i o = 3 := by unfold kindO; rw [ho]
  refine WPS.eff0 (d := .tup []) hk hg hw ?_ ?_ hd h
  · unfold evPure; rw [ho]
  · unfold evEff
    rw [ho]
    simp [storeD, hti, ha, hx, hsz, hob, hm, hsh, hrow, hc, hl, splice]

/-- Two texts joined. -/
theorem WPS.sadd {t : Tmp} {ty ty' : TypeId} {x y : Operand} {a b : List UInt8} (ho : o.op = .binOp .add ty x y ty') (hx : opd E (fnT n τ) x = .str a) (hy : opd E (fnT n τ) y = .str b) (hg : wantD ops (fnT n τ) o = some true) (hw : touchOK dr E o (fnT n τ) H = true) (hd : o.dst = some t) (ht : t < n ∧ n ≤ 4000)
    (hlen : a.length + b.length ≤ 9223372036854775807)
    (h : WPS dr E call f r ops (i + 1) l (acc ++ [(false, touch E o (opd E (fnT n τ)) H)]) Q (fnT n (upd τ t (.str (a ++ b)))) H) : WPS dr E call f r ops i (o :: l) acc Q (fnT n τ) H := by
  refine WPS.val' hg hw ?_ hd ht h
  unfold evPure
  rw [ho]
  have : ¬ ((a.length + b.length : Nat) : Int) > IntKind.i64.max := by simp [IntKind.max, IntKind.bits, IntKind.signed]; omega
  simp only [hx, hy, binD, strD, this, if_false, Option.map_some]

/-- A part of a text. -/
theorem WPS.ssub {t : Tmp} {ty : TypeId} {x lo hi : Operand} {ag sz by_ zr} {a : List UInt8} {k k' : IntKind} {p q : Int} (ho : o.op = .slice ty x (some lo) (some hi) none) (hx : opd E (fnT n τ) x = .str a) (hlo : opd E (fnT n τ) lo = .int k p) (hhi : opd E (fnT n τ) hi = .int k' q) (hg : wantD ops (fnT n τ) o = some true) (hw : touchOK dr E o (fnT n τ) H = true) (hti : E.ti ty = some ⟨ag, sz, by_, zr, .str⟩) (hd : o.dst = some t) (ht : t < n ∧ n ≤ 4000)
    (h0 : 0 ≤ p) (h1 : p ≤ q) (h2 : q ≤ a.length)
    (h : WPS dr E call f r ops (i + 1) l (acc ++ [(false, touch E o (opd E (fnT n τ)) H)]) Q (fnT n (upd τ t (.str ((a.take q.toNat).drop p.toNat)))) H) : WPS dr E call f r ops i (o :: l) acc Q (fnT n τ) H := by
  refine WPS.val' hg hw ?_ hd ht h
  unfold evPure
  rw [ho]
  have e1 : 0 ≤ q := by omega
  have e2 : q.toNat ≤ a.length := by omega
  have e3 : p.toNat ≤ q.toNat := by omega
  simp [hx, hlo, hhi, hti, sliceD, boundD, h0, e1, e2, e3]

/-- A call whose result is several values, lists among them: as they are read. -/
theorem callPure_view {call : CallF} {g : FuncId} {args args' : List D} {H H0 : Heap} {d d' : D} (hv : viewL H args = some args') (hf : idFreeL args' = true) (hp : call g args' [] = some (.ret d, H0)) (hd : view H0 d = some d') (hfree : idFree d' = true)
    (hx : (args.flatMap arrs.arr1).isEmpty = true) {m : Nat} : callPure call true g args H m = some (d', []) := by
  have hpl : ∃ H1, plainOut true d H0 = some (d', H1) := ⟨_, by simp only [plainOut, if_true, hd]; rfl⟩
  obtain ⟨H1, hpl⟩ := hpl
  simp only [callPure, hv, hf, hp, hpl, hx, Bool.true_or, Bool.not_true, Bool.false_eq_true, if_false, hfree, if_true]
end
end Go.Cv
/- Steps on lists' parts, on halves, on sums that run over. -/
set_option linter.unusedSimpArgs false
set_option linter.unusedVariables false
namespace Go.Cv
section
variable {E : Env} {call : CallF} {f fuel r : Nat} {Q : Ex → St → Prop} {s : St} {ops : Array Oper} {i n : Nat} {o : Oper} {l : List Oper} {τ : Nat → D} {H : Heap} {dr : Bool} {acc : List (Bool × List Nat)}

/-- Half of a number. -/
theorem WPS.half {t : Tmp} {ty ty' : TypeId} {x y : Operand} {k k' : IntKind} {a : Int} (ho : o.op = .binOp .shr ty x y ty') (hx : opd E (fnT n τ) x = .int k a) (hy : opd E (fnT n τ) y = .int k' 1) (hg : wantD ops (fnT n τ) o = some true) (hw : touchOK dr E o (fnT n τ) H = true) (hd : o.dst = some t) (ht : t < n ∧ n ≤ 4000)
    (hk : 1 ≤ k.bits)
    (h : WPS dr E call f r ops (i + 1) l (acc ++ [(false, touch E o (opd E (fnT n τ)) H)]) Q (fnT n (upd τ t (.int k (a / 2)))) H) : WPS dr E call f r ops i (o :: l) acc Q (fnT n τ) H := by
  refine WPS.val' hg hw ?_ hd ht h
  unfold evPure
  rw [ho]
  have h1 : min 1 k.bits = 1 := by omega
  have h2 : a.fdiv 2 = a / 2 := Int.fdiv_eq_ediv_of_nonneg a (by omega)
  simp [hx, hy, binD, intD, h1, h2]

/-- Its own part, up to all of it, with no room after. -/
theorem WPS.clip {α : Type} {enc : α → List D} {t : Tmp} {ty e : TypeId} {x hi mx : Operand} {ag sz by_ zr} {ei : TI} {xs : List α} {k k' : IntKind} {p q : Int} (ho : o.op = .slice ty x none (some hi) (some mx)) (hx : opd E (fnT n τ) x = .slc (xs.map enc)) (hhi : opd E (fnT n τ) hi = .int k p) (hmx : opd E (fnT n τ) mx = .int k' q) (hg : wantD ops (fnT n τ) o = some true) (hw : touchOK dr E o (fnT n τ) H = true) (hti : E.ti ty = some ⟨ag, sz, by_, zr, .slice e⟩) (hei : E.ti e = some ei) (hsz : ∀ a, Nat.beq (enc a).length ei.size = true) (hd : o.dst = some t) (ht : t < n ∧ n ≤ 4000)
    (hp : p = xs.length) (hq : q = xs.length) (hne : xs ≠ [])
    (h : WPS dr E call f r ops (i + 1) l (acc ++ [(false, touch E o (opd E (fnT n τ)) H)]) Q (fnT n (upd τ t (.slc (xs.map enc)))) H) : WPS dr E call f r ops i (o :: l) acc Q (fnT n τ) H := by
  refine WPS.val' hg hw ?_ hd ht h
  subst hp hq
  have hh : headOK ei.size (xs.map enc) = true := by
    cases xs with
    | nil => rfl
    | cons a xs => simp [headOK, Nat.eq_of_beq_eq_true (hsz a)]
  have h0 : xs.length ≠ 0 := fun h => hne (List.eq_nil_of_length_eq_zero h)
  unfold evPure
  rw [ho]
  simp [hx, hhi, hmx, hti, hei, hh, sliceD, boundD, h0]
  exact (List.take_of_length_le (by simp)).trans rfl

/-- A list's first part. -/
theorem WPS.upto {α : Type} {enc : α → List D} {t : Tmp} {ty e : TypeId} {x hi : Operand} {ag sz by_ zr} {ei : TI} {xs : List α} {k : IntKind} {p : Int} (ho : o.op = .slice ty x none (some hi) none) (hx : opd E (fnT n τ) x = .slc (xs.map enc)) (hhi : opd E (fnT n τ) hi = .int k p) (hg : wantD ops (fnT n τ) o = some true) (hw : touchOK dr E o (fnT n τ) H = true) (hti : E.ti ty = some ⟨ag, sz, by_, zr, .slice e⟩) (hei : E.ti e = some ei) (hsz : ∀ a, Nat.beq (enc a).length ei.size = true) (hd : o.dst = some t) (ht : t < n ∧ n ≤ 4000)
    (h0 : 0 ≤ p) (h1 : p ≤ xs.length)
    (h : WPS dr E call f r ops (i + 1) l (acc ++ [(false, touch E o (opd E (fnT n τ)) H)]) Q (fnT n (upd τ t (.slc ((xs.take p.toNat).map enc)))) H) : WPS dr E call f r ops i (o :: l) acc Q (fnT n τ) H := by
  refine WPS.val' hg hw ?_ hd ht h
  have hh : headOK ei.size (xs.map enc) = true := by
    cases xs with
    | nil => rfl
    | cons a xs => simp [headOK, Nat.eq_of_beq_eq_true (hsz a)]
  have e2 : p.toNat ≤ xs.length := by omega
  unfold evPure
  rw [ho]
  simp [hx, hhi, hti, hei, hh, sliceD, boundD, h0, e2, List.map_take]

/-- A list's rest. -/
theorem WPS.from_ {α : Type} {enc : α → List D} {t : Tmp} {ty e : TypeId} {x lo : Operand} {ag sz by_ zr} {ei : TI} {xs : List α} {k : IntKind} {p : Int} (ho : o.op = .slice ty x (some lo) none none) (hx : opd E (fnT n τ) x = .slc (xs.map enc)) (hlo : opd E (fnT n τ) lo = .int k p) (hg : wantD ops (fnT n τ) o = some true) (hw : touchOK dr E o (fnT n τ) H = true) (hti : E.ti ty = some ⟨ag, sz, by_, zr, .slice e⟩) (hei : E.ti e = some ei) (hsz : ∀ a, Nat.beq (enc a).length ei.size = true) (hd : o.dst = some t) (ht : t < n ∧ n ≤ 4000)
    (h0 : 0 ≤ p) (h1 : p ≤ xs.length)
    (h : WPS dr E call f r ops (i + 1) l (acc ++ [(false, touch E o (opd E (fnT n τ)) H)]) Q (fnT n (upd τ t (.slc ((xs.drop p.toNat).map enc)))) H) : WPS dr E call f r ops i (o :: l) acc Q (fnT n τ) H := by
  refine WPS.val' hg hw ?_ hd ht h
  have hh : headOK ei.size (xs.map enc) = true := by
    cases xs with
    | nil => rfl
    | cons a xs => simp [headOK, Nat.eq_of_beq_eq_true (hsz a)]
  have e2 : p.toNat ≤ xs.length := by omega
  unfold evPure
  rw [ho]
  have e3 : (xs.map enc).take xs.length = xs.map enc := List.take_of_length_le (by simp)
  simp [hx, hlo, hti, hei, hh, sliceD, boundD, h0, e2, List.map_drop, e3]

/-- As 'upto' and 'from_', the part by name. -/
theorem WPS.uptoN {α : Type} {enc : α → List D} {t : Tmp} {ty e : TypeId} {x hi : Operand} {ag sz by_ zr} {ei : TI} {xs : List α} {k : IntKind} {p : Int} (ho : o.op = .slice ty x none (some hi) none) (hx : opd E (fnT n τ) x = .slc (xs.map enc)) (hhi : opd E (fnT n τ) hi = .int k p) (hg : wantD ops (fnT n τ) o = some true) (hw : touchOK dr E o (fnT n τ) H = true) (hti : E.ti ty = some ⟨ag, sz, by_, zr, .slice e⟩) (hei : E.ti e = some ei) (hsz : ∀ a, Nat.beq (enc a).length ei.size = true) (hd : o.dst = some t) (ht : t < n ∧ n ≤ 4000)
    (h0 : 0 ≤ p) (h1 : p ≤ xs.length)
    (h : ∀ ys, ys = xs.take p.toNat → WPS dr E call f r ops (i + 1) l (acc ++ [(false, touch E o (opd E (fnT n τ)) H)]) Q (fnT n (upd τ t (.slc (ys.map enc)))) H) : WPS dr E call f r ops i (o :: l) acc Q (fnT n τ) H :=
  WPS.upto ho hx hhi hg hw hti hei hsz hd ht h0 h1 (h _ rfl)
theorem WPS.fromN {α : Type} {enc : α → List D} {t : Tmp} {ty e : TypeId} {x lo : Operand} {ag sz by_ zr} {ei : TI} {xs : List α} {k : IntKind} {p : Int} (ho : o.op = .slice ty x (some lo) none none) (hx : opd E (fnT n τ) x = .slc (xs.map enc)) (hlo : opd E (fnT n τ) lo = .int k p) (hg : wantD ops (fnT n τ) o = some true) (hw : touchOK dr E o (fnT n τ) H = true) (hti : E.ti ty = some ⟨ag, sz, by_, zr, .slice e⟩) (hei : E.ti e = some ei) (hsz : ∀ a, Nat.beq (enc a).length ei.size = true) (hd : o.dst = some t) (ht : t < n ∧ n ≤ 4000)
    (h0 : 0 ≤ p) (h1 : p ≤ xs.length)
    (h : ∀ ys, ys = xs.drop p.toNat → WPS dr E call f r ops (i + 1) l (acc ++ [(false, touch E o (opd E (fnT n τ)) H)]) Q (fnT n (upd τ t (.slc (ys.map enc)))) H) : WPS dr E call f r ops i (o :: l) acc Q (fnT n τ) H :=
  WPS.from_ ho hx hlo hg hw hti hei hsz hd ht h0 h1 (h _ rfl)

/-- A sum that may run over: what it comes to is told. -/
theorem WPS.numTo {t : Tmp} {k : IntKind} {m : Int} (m' : Int) (_ : isArith o = true) (hg : wantD ops (fnT n τ) o = some true) (hw : touchOK dr E o (fnT n τ) H = true) (ho : evPure E call f r i o (opd E (fnT n τ)) H H.length = some (.int k (wr k m), [])) (hd : o.dst = some t) (ht : t < n ∧ n ≤ 4000)
    (hr : wr k m = m') (h : WPS dr E call f r ops (i + 1) l (acc ++ [(false, touch E o (opd E (fnT n τ)) H)]) Q (fnT n (upd τ t (.int k m'))) H) : WPS dr E call f r ops i (o :: l) acc Q (fnT n τ) H :=
  WPS.val' hg hw (by rw [ho, hr]) hd ht h

/-- A rest. -/
theorem WPS.rem {t : Tmp} {ty ty' : TypeId} {x y : Operand} {k : IntKind} {a b : Int} (ho : o.op = .binOp .rem ty x y ty') (hx : opd E (fnT n τ) x = .int k a) (hy : opd E (fnT n τ) y = .int k b) (hg : wantD ops (fnT n τ) o = some true) (hw : touchOK dr E o (fnT n τ) H = true) (hd : o.dst = some t) (ht : t < n ∧ n ≤ 4000)
    (ha : 0 ≤ a) (hb : 0 < b)
    (h : ∀ m : Int, m = a % b → WPS dr E call f r ops (i + 1) l (acc ++ [(false, touch E o (opd E (fnT n τ)) H)]) Q (fnT n (upd τ t (.int k m))) H) : WPS dr E call f r ops i (o :: l) acc Q (fnT n τ) H := by
  refine WPS.val' hg hw ?_ hd ht (h _ rfl)
  unfold evPure
  rw [ho]
  have h1 : b ≠ 0 := by omega
  have h2 : a.tmod b = a % b := Int.tmod_eq_emod_of_nonneg ha
  simp [hx, hy, binD, intD, h1, h2]

/-! ### What a round leaves -/
def keepF (τ : Nat → D) : List Nat → Nat → D
  | [] => fun i => ([] : List D).getD i .top
  | i :: l => upd (keepF τ l) i (τ i)
theorem keepOnly_fnT (hn : n ≤ 4000) : (l : List Nat) → (∀ i ∈ l, i < n) → keepOnly (fnT n τ) l = fnT n (keepF τ l)
  | [], _ => rfl
  | i :: l, h => by
    have hi := h i (by simp)
    simp only [keepOnly, keepOnly_fnT hn l fun j hj => h j (by simp [hj]), fnT_get hi hn, fnT_set hi hn, keepF]
theorem reset_fnT {n : Nat} {τ : Nat → D} {H : Heap} {l : List Nat} {k : Nat} (hn : n ≤ 4000) (hl : (l.all fun i => Nat.blt i n) = true) (hi : (l.all fun i => (ids (τ i)).all (· < k)) = true) (hH : ((H.take k).all fun ob => (obIds ob).all (· < k)) = true) : reset (some l) k ⟨fnT n τ, H⟩ = some ⟨fnT n (keepF τ l), H.take k⟩ := by
  have hl' : ∀ i ∈ l, i < n := fun i h => by simpa [Nat.blt_eq] using List.all_eq_true.1 hl i h
  have e : (l.all fun i => (ids ((fnT n τ).get i)).all (· < k)) = true := by
    rw [List.all_eq_true] at hi ⊢
    intro i h
    rw [fnT_get (hl' i h) hn]
    exact hi i h
  simp only [reset, keepOnly_fnT hn l hl', e, hH, Bool.and_self, if_true]
end
end Go.Cv
