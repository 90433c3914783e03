/- Steps of a region, in the text's order or drawn, with open values. -/
import Derived.Test.YtlfkhemmgkdjjaaGreatDoorCvWp
set_option linter.unusedSimpArgs false
set_option linter.unusedVariables false
namespace Go.Cv

section
variable {E : Env} {call : CallF} {f fuel r : Nat} {Q : Ex → St → Prop} {s : St} {ops : Array Oper} {i n : Nat} {o : Oper} {l : List Oper} {τ : Nat → D} {H : Heap} {dr : Bool} {acc : List (Bool × List Nat)}

def WPS (dr : Bool) (E : Env) (call : CallF) (f r : Nat) (ops : Array Oper) (i : Nat) (l : List Oper) (acc : List (Bool × List Nat)) (Q : Ex → St → Prop) (T : Ts) (H : Heap) : Prop :=
  match dr with
  | false => WPO E call f r ops i l Q T H
  | true => ∃ T' H' tr, evDrawn E call f r ops i l T H = some (T', H', tr) ∧ (E.pairs f r).all (apart (acc ++ tr)) = true ∧ Q .normal ⟨T', H'⟩

theorem WP.reg (h : WPS dr E call f r ops 0 ops.toList [] Q s.T s.H) : WP E call f fuel (.region r ops dr) Q s := by
  cases dr
  · exact WP.region h
  · obtain ⟨T', H', tr, h1, h2, h3⟩ := h
    exact ⟨.normal, ⟨T', H'⟩, by simp only [evCode, h1]; rw [if_pos (by simpa using h2)], h3⟩

def touchOK (dr : Bool) (E : Env) (o : Oper) (T : Ts) (H : Heap) : Bool := !dr || (touch E o (opd E T) H).all fun x => Nat.blt x H.length

theorem WPS.nil (hp : (!dr || (E.pairs f r).all (apart acc)) = true) (h : Q .normal ⟨fnT n τ, H⟩) : WPS dr E call f r ops i [] acc Q (fnT n τ) H := by
  cases dr
  · exact WPO.nil h
  · exact ⟨_, _, [], rfl, by simpa using hp, h⟩

/-- Kinds: 0 a value · 1 it makes an object · 2 it writes, and hands back · 3 it writes alone · 4 a call. -/
def kindO (E : Env) (f r i : Nat) (o : Oper) : Nat :=
  match o.op with
  | .alloc _ | .box _ _ | .makeSlice _ _ _ => 1
  | .buildSlice _ _ _ => if E.keep f r i then 1 else 0
  | .store _ _ _ => 3
  | .call c => match c.callee with
    | .builtin .append => 2
    | .builtin _ => 0
    | _ => 4
  | _ => 0

theorem WPS.pure' {t : Tmp} {d : D} {new : List Ob} (hg : wantD ops (fnT n τ) o = some true) (hw : touchOK dr E o (fnT n τ) H = true) (ho : evPure E call f r i o (opd E (fnT n τ)) H H.length = some (d, new)) (hd : o.dst = some t) (ht : t < n ∧ n ≤ 4000)
    (h : WPS dr E call f r ops (i + 1) l (acc ++ [(false, touch E o (opd E (fnT n τ)) H)]) Q (fnT n (upd τ t d)) (H ++ new)) : WPS dr E call f r ops i (o :: l) acc Q (fnT n τ) H := by
  cases dr
  · refine WPO.cons hg ?_ hd ht h
    simp only [evOp, ho]
  · obtain ⟨T', H', tr, h1, h2, h3⟩ := h
    refine ⟨T', H', _ :: tr, ?_, by simpa using h2, h3⟩
    simp only [touchOK, Bool.not_true, Bool.false_or] at hw
    simp only [evDrawn, hg, hw, ho, put, hd, fnT_set ht.1 ht.2, h1, Bool.not_true, Bool.false_eq_true, if_false]

theorem WPS.pure {t : Tmp} {d : D} {new : List Ob} (hk : kindO E f r i o = 1) (hg : wantD ops (fnT n τ) o = some true) (hw : touchOK dr E o (fnT n τ) H = true) (ho : evPure E call f r i o (opd E (fnT n τ)) H H.length = some (d, new)) (hd : o.dst = some t) (ht : t < n ∧ n ≤ 4000)
    (h : WPS dr E call f r ops (i + 1) l (acc ++ [(false, touch E o (opd E (fnT n τ)) H)]) Q (fnT n (upd τ t d)) (H ++ new)) : WPS dr E call f r ops i (o :: l) acc Q (fnT n τ) H := WPS.pure' hg hw ho hd ht h

theorem WPS.pure0 {d : D} {new : List Ob} (hg : wantD ops (fnT n τ) o = some true) (hw : touchOK dr E o (fnT n τ) H = true) (ho : evPure E call f r i o (opd E (fnT n τ)) H H.length = some (d, new)) (hd : o.dst = none)
    (h : WPS dr E call f r ops (i + 1) l (acc ++ [(false, touch E o (opd E (fnT n τ)) H)]) Q (fnT n τ) (H ++ new)) : WPS dr E call f r ops i (o :: l) acc Q (fnT n τ) H := by
  cases dr
  · refine WPO.cons0 (d := d) hg ?_ hd h
    simp only [evOp, ho]
  · obtain ⟨T', H', tr, h1, h2, h3⟩ := h
    refine ⟨T', H', _ :: tr, ?_, by simpa using h2, h3⟩
    simp only [touchOK, Bool.not_true, Bool.false_or] at hw
    simp only [evDrawn, hg, hw, ho, put, hd, h1, Bool.not_true, Bool.false_eq_true, if_false]

/-- As 'pure', where nothing is made. -/
theorem WPS.val' {t : Tmp} {d : D} (hg : wantD ops (fnT n τ) o = some true) (hw : touchOK dr E o (fnT n τ) H = true) (ho : evPure E call f r i o (opd E (fnT n τ)) H H.length = some (d, [])) (hd : o.dst = some t) (ht : t < n ∧ n ≤ 4000)
    (h : WPS dr E call f r ops (i + 1) l (acc ++ [(false, touch E o (opd E (fnT n τ)) H)]) Q (fnT n (upd τ t d)) H) : WPS dr E call f r ops i (o :: l) acc Q (fnT n τ) H :=
  WPS.pure' hg hw ho hd ht (by rw [List.append_nil]; exact h)

theorem WPS.val {t : Tmp} {d d' : D} (hk : kindO E f r i o = 0) (hg : wantD ops (fnT n τ) o = some true) (hw : touchOK dr E o (fnT n τ) H = true) (ho : evPure E call f r i o (opd E (fnT n τ)) H H.length = some (d, [])) (hv : d = d') (hd : o.dst = some t) (ht : t < n ∧ n ≤ 4000)
    (h : WPS dr E call f r ops (i + 1) l (acc ++ [(false, touch E o (opd E (fnT n τ)) H)]) Q (fnT n (upd τ t d')) H) : WPS dr E call f r ops i (o :: l) acc Q (fnT n τ) H := WPS.val' hg hw (by rw [ho, hv]) hd ht h

theorem WPS.eff {t : Tmp} {d : D} {H' : Heap} (hk : kindO E f r i o = 2) (hg : wantD ops (fnT n τ) o = some true) (hw : touchOK dr E o (fnT n τ) H = true) (hp : evPure E call f r i o (opd E (fnT n τ)) H H.length = none) (ho : evEff E call f r i o (opd E (fnT n τ)) H = some (.val d H')) (hd : o.dst = some t) (ht : t < n ∧ n ≤ 4000)
    (h : WPS dr E call f r ops (i + 1) l (acc ++ [(true, touch E o (opd E (fnT n τ)) H)]) Q (fnT n (upd τ t d)) H') : WPS dr E call f r ops i (o :: l) acc Q (fnT n τ) H := by
  cases dr
  · refine WPO.cons hg ?_ hd ht h
    simp only [evOp, hp, ho]
  · obtain ⟨T', H', tr, h1, h2, h3⟩ := h
    refine ⟨T', _, _ :: tr, ?_, by simpa using h2, h3⟩
    simp only [touchOK, Bool.not_true, Bool.false_or] at hw
    simp only [evDrawn, hg, hw, hp, ho, put, hd, fnT_set ht.1 ht.2, h1, Bool.not_true, Bool.false_eq_true, if_false]

theorem WPS.eff0 {d : D} {H' : Heap} (hk : kindO E f r i o = 3) (hg : wantD ops (fnT n τ) o = some true) (hw : touchOK dr E o (fnT n τ) H = true) (hp : evPure E call f r i o (opd E (fnT n τ)) H H.length = none) (ho : evEff E call f r i o (opd E (fnT n τ)) H = some (.val d H')) (hd : o.dst = none)
    (h : WPS dr E call f r ops (i + 1) l (acc ++ [(true, touch E o (opd E (fnT n τ)) H)]) Q (fnT n τ) H') : WPS dr E call f r ops i (o :: l) acc Q (fnT n τ) H := by
  cases dr
  · refine WPO.cons0 (d := d) hg ?_ hd h
    simp only [evOp, hp, ho]
  · obtain ⟨T', H', tr, h1, h2, h3⟩ := h
    refine ⟨T', _, _ :: tr, ?_, by simpa using h2, h3⟩
    simp only [touchOK, Bool.not_true, Bool.false_or] at hw
    simp only [evDrawn, hg, hw, hp, ho, put, hd, h1, Bool.not_true, Bool.false_eq_true, if_false]

theorem WPS.skip {t : Tmp} (hg : wantD ops (fnT n τ) o = some false) (hd : o.dst = some t) (ht : t < n ∧ n ≤ 4000)
    (h : WPS dr E call f r ops (i + 1) l (acc ++ [(false, [])]) Q (fnT n (upd τ t (.tup []))) H) : WPS dr E call f r ops i (o :: l) acc Q (fnT n τ) H := by
  cases dr
  · exact WPO.skip hg hd ht h
  · obtain ⟨T', H', tr, h1, h2, h3⟩ := h
    refine ⟨T', _, _ :: tr, ?_, by simpa using h2, h3⟩
    simp only [evDrawn, hg, put, hd, fnT_set ht.1 ht.2, h1]
theorem WPS.skip0 (hg : wantD ops (fnT n τ) o = some false) (hd : o.dst = none)
    (h : WPS dr E call f r ops (i + 1) l (acc ++ [(false, [])]) Q (fnT n τ) H) : WPS dr E call f r ops i (o :: l) acc Q (fnT n τ) H := by
  cases dr
  · exact WPO.skip0 hg hd h
  · obtain ⟨T', H', tr, h1, h2, h3⟩ := h
    refine ⟨T', _, _ :: tr, ?_, by simpa using h2, h3⟩
    simp only [evDrawn, hg, put, hd, h1]

/-! ### Kinds of operations -/
theorem WPS.mv {t x : Tmp} {d : D} (ho : o.op = .move (.tmp x) ∨ o.op = .assign (.tmp x)) (hg : wantD ops (fnT n τ) o = some true) (hw : touchOK dr E o (fnT n τ) H = true) (hx : x < n) (hv : τ x = d) (hd : o.dst = some t) (ht : t < n ∧ n ≤ 4000)
    (h : WPS dr E call f r ops (i + 1) l (acc ++ [(false, touch E o (opd E (fnT n τ)) H)]) Q (fnT n (upd τ t d)) H) : WPS dr E call f r ops i (o :: l) acc Q (fnT n τ) H := by
  refine WPS.val' hg hw ?_ hd ht h
  have e : opd E (fnT n τ) (.tmp x) = d := by simp only [opd, fnT_get hx ht.2, hv]
  unfold evPure
  rcases ho with ho | ho <;> rw [ho] <;> simp [e]

theorem WPS.cmp {t : Tmp} {b : Bool} {bo : BinOp} {ty ty' : TypeId} {x y : Operand} (_ : o.op = .binOp bo ty x y ty') (hg : wantD ops (fnT n τ) o = some true) (hw : touchOK dr E o (fnT n τ) H = true) (ho : evPure E call f r i o (opd E (fnT n τ)) H H.length = some (.bool b, [])) (hd : o.dst = some t) (ht : t < n ∧ n ≤ 4000)
    (h : ∀ b', b = b' → WPS dr E call f r ops (i + 1) l (acc ++ [(false, touch E o (opd E (fnT n τ)) H)]) Q (fnT n (upd τ t (.bool b'))) H) : WPS dr E call f r ops i (o :: l) acc Q (fnT n τ) H :=
  WPS.val' hg hw ho hd ht (h b rfl)

def isArith (o : Oper) : Bool := match o.op with
  | .binOp .add .. | .binOp .sub .. | .binOp .mul .. | .convert .. => true
  | _ => false
theorem WPS.num {t : Tmp} {k : IntKind} {m : Int} (_ : isArith o = true) (hg : wantD ops (fnT n τ) o = some true) (hw : touchOK dr E o (fnT n τ) H = true) (ho : evPure E call f r i o (opd E (fnT n τ)) H H.length = some (.int k (wr k m), [])) (hd : o.dst = some t) (ht : t < n ∧ n ≤ 4000)
    (hr : k.min ≤ m ∧ m ≤ k.max) (h : WPS dr E call f r ops (i + 1) l (acc ++ [(false, touch E o (opd E (fnT n τ)) H)]) Q (fnT n (upd τ t (.int k m))) H) : WPS dr E call f r ops i (o :: l) acc Q (fnT n τ) H :=
  WPS.val' hg hw (by rw [ho, wr_in hr]) hd ht h

theorem WPS.idx {t : Tmp} {ty : TypeId} {x ix : Operand} {ag sz by_ zr} {k : IntKind} {j : Int} {b : List UInt8} (ho : o.op = .index ty x ix) (hg : wantD ops (fnT n τ) o = some true) (hw : touchOK dr E o (fnT n τ) H = true) (hti : E.ti ty = some ⟨ag, sz, by_, zr, .str⟩)
    (hx : opd E (fnT n τ) x = .str b) (hi : opd E (fnT n τ) ix = .int k j) (hd : o.dst = some t) (ht : t < n ∧ n ≤ 4000) (h0 : 0 ≤ j) (hlt : j.toNat < b.length)
    (h : ∀ ch, b[j.toNat]? = some ch → WPS dr E call f r ops (i + 1) l (acc ++ [(false, touch E o (opd E (fnT n τ)) H)]) Q (fnT n (upd τ t (.int .u8 ch.toNat))) H) : WPS dr E call f r ops i (o :: l) acc Q (fnT n τ) H := by
  obtain ⟨ch, hch⟩ : ∃ ch, b[j.toNat]? = some ch := ⟨_, List.getElem?_eq_getElem hlt⟩
  refine WPS.val' hg hw ?_ hd ht (h ch hch)
  unfold evPure
  rw [ho]
  have h0' : ¬ j < 0 := by omega
  simp [hti, hx, hi, h0', hch]

/-- An element of a list. -/
theorem WPS.idxA {α : Type} {enc : α → List D} {xs : List α} {t : Tmp} {ty e : TypeId} {x ix : Operand} {ag sz by_ zr} {ei : TI} {k : IntKind} {j : Int} (ho : o.op = .indexAddr ty x ix) (hg : wantD ops (fnT n τ) o = some true) (hw : touchOK dr E o (fnT n τ) H = true) (hti : E.ti ty = some ⟨ag, sz, by_, zr, .slice e⟩) (hei : E.ti e = some ei)
    (hx : opd E (fnT n τ) x = .slc (xs.map enc)) (hi : opd E (fnT n τ) ix = .int k j) (hd : o.dst = some t) (ht : t < n ∧ n ≤ 4000) (hsz : ∀ a, Nat.beq (enc a).length ei.size = true) (h0 : 0 ≤ j) (hlt : j.toNat < xs.length)
    (h : ∀ a, xs[j.toNat]? = some a → WPS dr E call f r ops (i + 1) l (acc ++ [(false, touch E o (opd E (fnT n τ)) H)]) Q (fnT n (upd τ t (.eptr (enc a) 0))) H) : WPS dr E call f r ops i (o :: l) acc Q (fnT n τ) H := by
  obtain ⟨a, ha⟩ : ∃ a, xs[j.toNat]? = some a := ⟨_, List.getElem?_eq_getElem hlt⟩
  refine WPS.val' hg hw ?_ hd ht (h a ha)
  unfold evPure
  rw [ho]
  have h0' : ¬ j < 0 := by omega
  have hl : (enc a).length = ei.size := Nat.eq_of_beq_eq_true (hsz a)
  simp [hti, hei, hx, hi, h0', List.getElem?_map, ha, hl]

theorem WPS.idxK {α : Type} {enc : α → List D} {xs : List α} {a : α} {t : Tmp} {ty e : TypeId} {x ix : Operand} {ag sz by_ zr} {ei : TI} {k : IntKind} {j : Int} (ho : o.op = .indexAddr ty x ix) (hg : wantD ops (fnT n τ) o = some true) (hw : touchOK dr E o (fnT n τ) H = true) (hti : E.ti ty = some ⟨ag, sz, by_, zr, .slice e⟩) (hei : E.ti e = some ei)
    (hx : opd E (fnT n τ) x = .slc (xs.map enc)) (hi : opd E (fnT n τ) ix = .int k j) (hd : o.dst = some t) (ht : t < n ∧ n ≤ 4000) (hsz : ∀ a, Nat.beq (enc a).length ei.size = true) (h0 : 0 ≤ j) (ha : xs[j.toNat]? = some a)
    (h : WPS dr E call f r ops (i + 1) l (acc ++ [(false, touch E o (opd E (fnT n τ)) H)]) Q (fnT n (upd τ t (.eptr (enc a) 0))) H) : WPS dr E call f r ops i (o :: l) acc Q (fnT n τ) H := by
  refine WPS.val' hg hw ?_ hd ht h
  unfold evPure
  rw [ho]
  have h0' : ¬ j < 0 := by omega
  have hl : (enc a).length = ei.size := Nat.eq_of_beq_eq_true (hsz a)
  simp [hti, hei, hx, hi, h0', List.getElem?_map, ha, hl]

/-- append to an object. -/
theorem WPS.app {t : Tmp} {cl : Call} {st tx e : TypeId} {sx xx : Operand} {id m : Nat} {ys : List (List D)} {ob : Ob} {ag sz by_ zr} {ei : TI} (ho : o.op = .call cl) (hg : wantD ops (fnT n τ) o = some true) (hw : touchOK dr E o (fnT n τ) H = true) (hcl : cl.callee = .builtin .append)
    (hts : cl.argTypes.toList = [st, tx]) (hargs : cl.args.toList = [sx, xx]) (hti : E.ti st = some ⟨ag, sz, by_, zr, .slice e⟩) (hei : E.ti e = some ei) (hs : opd E (fnT n τ) sx = .arr id m) (hx : opd E (fnT n τ) xx = .slc ys) (hd : o.dst = some t) (ht : t < n ∧ n ≤ 4000)
    (hob : H[id]? = some ob) (hm : ob.xs.length = m) (hh : (headOK ei.size ys && srcType E tx ei.size (.slc ys) && ei.size != 0 && ei.zero.length == ei.size) = true) (hh2 : headOK ei.size ob.xs = true) (hroom : (m + ys.length) * ei.bytes ≤ 140737488355328 ∧ m + ys.length ≤ 9223372036854775807)
    (h : WPS dr E call f r ops (i + 1) l (acc ++ [(true, touch E o (opd E (fnT n τ)) H)]) Q (fnT n (upd τ t (.arr id (m + ys.length)))) (H.set id ⟨ob.xs ++ ys, ob.sh⟩)) : WPS dr E call f r ops i (o :: l) acc Q (fnT n τ) H := by
  refine WPS.eff (by unfold kindO; rw [ho]; simp only [hcl]) hg hw ?_ ?_ hd ht h
  · unfold evPure; rw [ho]; simp only [hcl]
  · unfold evEff
    rw [ho]
    simp only [hcl, hts, hargs, hs, hx]
    have hr : roomOK (m + ys.length) ei.bytes = true := by simp only [roomOK, Bool.and_eq_true, decide_eq_true_eq]; exact hroom
    simp [appendD, hti, hei, srcRows, rowsOf, hh, hob, hm, hh2, hr]

/-! ### Calls -/
/-- A value that leads to no list of which others may hold a part, and to no object. -/
def plainD (d : D) : Prop := (∀ H, view H d = some d) ∧ arrs d = [] ∧ idFree d = true

theorem callPure_of {plain : Bool} {g : FuncId} {args args' : List D} {d : D} {H0 : Heap} (hv : viewL H args = some args') (hf : idFreeL args' = true) (hp : call g args' [] = some (.ret d, H0)) (hd : plainD d)
    (hx : ((args.flatMap arrs.arr1).isEmpty || flat d) = true) {m : Nat} : callPure call plain g args H m = some (d, []) := by
  have hpl : plainOut plain d H0 = some (d, H0) := by
    unfold plainOut
    cases plain
    · rfl
    · simp only [if_true, hd.1 H0, hd.2.1]; rfl
  simp only [callPure, hv, hf, hp, hpl, hx, hd.2.2, Bool.not_true, Bool.false_eq_true, if_false, if_true]

theorem WPS.ask {t : Tmp} {cl : Call} {gx : Operand} {g : FuncId} {first captured as as' : List D} {R : D → Prop} (ho : o.op = .call cl) (hg : wantD ops (fnT n τ) o = some true) (hcl : cl.callee = .value gx) (hgx : opd E (fnT n τ) gx = .fn (.func g) first captured)
    (hw : touchOK dr E o (fnT n τ) H = true) (hargs : first ++ cl.args.toList.map (opd E (fnT n τ)) ++ captured = as) (hv : viewL H as = some as') (hf : idFreeL as' = true) (hd : o.dst = some t) (ht : t < n ∧ n ≤ 4000)
    (hc : ∃ d H', call g as' [] = some (.ret d, H') ∧ R d) (hR : ∀ d, R d → plainD d ∧ ((as.flatMap arrs.arr1).isEmpty || flat d) = true)
    (h : ∀ d, R d → WPS dr E call f r ops (i + 1) l (acc ++ [(false, touch E o (opd E (fnT n τ)) H)]) Q (fnT n (upd τ t d)) H) : WPS dr E call f r ops i (o :: l) acc Q (fnT n τ) H := by
  obtain ⟨d, H', hc1, hr⟩ := hc
  obtain ⟨h1, h2⟩ := hR d hr
  refine WPS.val' hg hw ?_ hd ht (h d hr)
  unfold evPure
  rw [ho]
  simp only [hcl, hgx, hargs]
  exact callPure_of hv hf hc1 h1 h2

/-- A call whose contract tells the list that comes back. -/
theorem WPS.askL {t : Tmp} {cl : Call} {gx : Operand} {g : FuncId} {first captured as : List D} {d : D} (ho : o.op = .call cl) (hg : wantD ops (fnT n τ) o = some true) (hcl : cl.callee = .value gx) (hgx : opd E (fnT n τ) gx = .fn (.func g) first captured)
    (hw : touchOK dr E o (fnT n τ) H = true) (hargs : first ++ cl.args.toList.map (opd E (fnT n τ)) ++ captured = as) (hd : o.dst = some t) (ht : t < n ∧ n ≤ 4000)
    (hc : callPure call (!E.keep f r i) g as H H.length = some (d, []))
    (h : WPS dr E call f r ops (i + 1) l (acc ++ [(false, touch E o (opd E (fnT n τ)) H)]) Q (fnT n (upd τ t d)) H) : WPS dr E call f r ops i (o :: l) acc Q (fnT n τ) H := by
  refine WPS.val' hg hw ?_ hd ht h
  unfold evPure
  rw [ho]
  simp only [hcl, hgx, hargs]
  exact hc

theorem plain_bool (b : Bool) : plainD (.bool b) := ⟨fun _ => rfl, rfl, rfl⟩
theorem plain_int (k : IntKind) (m : Int) : plainD (.int k m) := ⟨fun _ => rfl, rfl, rfl⟩
theorem plain_str (b : List UInt8) : plainD (.str b) := ⟨fun _ => rfl, rfl, rfl⟩
theorem plain_slc (b : List (List D)) : plainD (.slc b) := ⟨fun _ => rfl, rfl, rfl⟩
end
end Go.Cv
