/- Stepping through code with open values: temporaries as a function, rules for code. -/
import Derived.Test.YtlfkhemmgkdjjaaGreatDoorCvDrawn5
namespace Go.Cv

/-! ### Temporaries as a function -/
theorem ofDepth_get (f : Nat → D) : (k at_ step j : Nat) → j + 1 < 2 ^ k → (Tm.ofDepth f k at_ step).get j = f (at_ + step * j)
  | 0, _, _, j, h => by simp at h
  | k + 1, a, s, j, h => by
    rw [Nat.pow_succ] at h
    simp only [Tm.ofDepth, Tm.get]
    rcases Nat.eq_zero_or_pos j with rfl | hj
    · simp
    · have h0 : Nat.beq j 0 = false := by cases hb : Nat.beq j 0; rfl; have := Nat.eq_of_beq_eq_true hb; omega
      rcases Nat.mod_two_eq_zero_or_one j with h2 | h2
      · have h1 : Nat.beq (j % 2) 1 = false := by rw [h2]; rfl
        simp only [h0, h1, cond_false]
        rw [ofDepth_get f k _ _ _ (by omega)]
        congr 1
        have e : j = 2 * (j / 2 - 1) + 2 := by omega
        generalize j / 2 - 1 = m at e
        subst e
        rw [Nat.mul_add, Nat.mul_assoc s 2 m]
        omega
      · have h1 : Nat.beq (j % 2) 1 = true := by rw [h2]; rfl
        simp only [h0, h1, cond_false, cond_true]
        rw [ofDepth_get f k _ _ _ (by omega)]
        congr 1
        have e : j = 2 * (j / 2) + 1 := by omega
        generalize j / 2 = m at e
        subst e
        rw [Nat.mul_add, Nat.mul_assoc s 2 m]
        omega

theorem ofDepth_congr {f g : Nat → D} : (k at_ step : Nat) → (∀ i, i + 1 < 2 ^ k → f (at_ + step * i) = g (at_ + step * i)) → Tm.ofDepth f k at_ step = Tm.ofDepth g k at_ step
  | 0, _, _, _ => rfl
  | k + 1, a, s, h => by
    have hp : 0 < 2 ^ k := Nat.pow_pos (by omega)
    rw [Nat.pow_succ] at h
    simp only [Tm.ofDepth]
    have h0 := h 0 (by omega)
    simp only [Nat.mul_zero, Nat.add_zero] at h0
    rw [h0]
    congr 1
    · refine ofDepth_congr k _ _ fun i hi => ?_
      have := h (2 * i + 1) (by omega)
      rwa [show a + s * (2 * i + 1) = a + s + s * 2 * i by rw [Nat.mul_add, Nat.mul_assoc s 2 i]; omega] at this
    · refine ofDepth_congr k _ _ fun i hi => ?_
      have := h (2 * i + 2) (by omega)
      rwa [show a + s * (2 * i + 2) = a + s * 2 + s * 2 * i by rw [Nat.mul_add, Nat.mul_assoc s 2 i]; omega] at this

theorem ofDepth_set (f : Nat → D) (d : D) : (k at_ step j : Nat) → 0 < step → j + 1 < 2 ^ k → (Tm.ofDepth f k at_ step).set j d = Tm.ofDepth (upd f (at_ + step * j) d) k at_ step
  | 0, _, _, j, _, h => by simp at h
  | k + 1, a, s, j, hs, h => by
    rw [Nat.pow_succ] at h
    simp only [Tm.ofDepth, Tm.set]
    rcases Nat.eq_zero_or_pos j with rfl | hj
    · simp only [show Nat.beq 0 0 = true from rfl, cond_true, Nat.mul_zero, Nat.add_zero, upd_same]
      have hne : ∀ x, a + s + x ≠ a := fun x => by omega
      have hne2 : ∀ x, a + s * 2 + x ≠ a := fun x => by omega
      congr 1
      · exact ofDepth_congr _ _ _ fun i _ => (upd_ne _ _ (hne _)).symm
      · exact ofDepth_congr _ _ _ fun i _ => (upd_ne _ _ (hne2 _)).symm
    · have h0 : Nat.beq j 0 = false := by cases hb : Nat.beq j 0; rfl; have := Nat.eq_of_beq_eq_true hb; omega
      have hne : a ≠ a + s * j := by have := Nat.mul_pos hs hj; omega
      rcases Nat.mod_two_eq_zero_or_one j with h2 | h2
      · have h1 : Nat.beq (j % 2) 1 = false := by rw [h2]; rfl
        simp only [h0, h1, cond_false, upd_ne _ _ hne]
        have e : j = 2 * (j / 2 - 1) + 2 := by omega
        have hl : j / 2 - 1 + 1 < 2 ^ k := by omega
        generalize j / 2 - 1 = m at e hl
        subst e
        have hx : a + s * (2 * m + 2) = a + s * 2 + s * 2 * m := by rw [Nat.mul_add, Nat.mul_assoc s 2 m]; omega
        rw [ofDepth_set f d k _ _ _ (by omega) hl, hx]
        congr 1
        refine ofDepth_congr _ _ _ fun i _ => (upd_ne _ _ ?_).symm
        intro hc
        have : s * (2 * i + 1) = s * (2 * m + 2) := by rw [Nat.mul_add, Nat.mul_add, ← Nat.mul_assoc, ← Nat.mul_assoc]; omega
        have := Nat.eq_of_mul_eq_mul_left hs this
        omega
      · have h1 : Nat.beq (j % 2) 1 = true := by rw [h2]; rfl
        simp only [h0, h1, cond_false, cond_true, upd_ne _ _ hne]
        have e : j = 2 * (j / 2) + 1 := by omega
        have hl : j / 2 + 1 < 2 ^ k := by omega
        generalize j / 2 = m at e hl
        subst e
        have hx : a + s * (2 * m + 1) = a + s + s * 2 * m := by rw [Nat.mul_add, Nat.mul_assoc s 2 m]; omega
        rw [ofDepth_set f d k _ _ _ (by omega) hl, hx]
        congr 1
        refine ofDepth_congr _ _ _ fun i _ => (upd_ne _ _ ?_).symm
        intro hc
        have : s * (2 * i + 2) = s * (2 * m + 1) := by rw [Nat.mul_add, Nat.mul_add, ← Nat.mul_assoc, ← Nat.mul_assoc]; omega
        have := Nat.eq_of_mul_eq_mul_left hs this
        omega

def fnT (n : Nat) (τ : Nat → D) : Ts := ⟨n, Tm.ofDepth τ (depthOf n) 0 1⟩

theorem depthOf_fits {i n : Nat} (hi : i < n) (hn : n ≤ 4000) : i + 1 < 2 ^ depthOf n := by
  unfold depthOf
  simp only [cond_eq_ite, Nat.ble_eq]
  repeat' split
  all_goals (simp; omega)

theorem fnT_get {n i : Nat} {τ : Nat → D} (hi : i < n) (hn : n ≤ 4000) : (fnT n τ).get i = τ i := by
  simp only [fnT, Ts.get]
  rw [ofDepth_get _ _ _ _ _ (depthOf_fits hi hn)]
  simp

theorem fnT_set {n i : Nat} {τ : Nat → D} {d : D} (hi : i < n) (hn : n ≤ 4000) : (fnT n τ).set i d = some (fnT n (upd τ i d)) := by
  have hb : Nat.blt i n = true := by simpa [Nat.blt_eq] using hi
  simp only [fnT, Ts.set, hb, cond_true]
  rw [ofDepth_set _ _ _ _ _ _ (by omega) (depthOf_fits hi hn)]
  simp

theorem of_fnT (n : Nat) (args : List D) : Ts.of n args = fnT n (fun i => args.getD i .top) := rfl

section
variable {E : Env} {call : CallF} {f fuel : Nat} {Q : Ex → St → Prop} {s : St}

/-- The operands' values. -/
def opF (E : Env) (n : Nat) (τ : Nat → D) : Operand → D
  | .tmp t => (fnT n τ).get t
  | .const v => ofVal v
  | .global g => match E.glob g with
    | some cells => .eptr cells 0
    | none => .top
  | .func f => .fn (.func f) [] []

theorem opd_fnT (n : Nat) (τ : Nat → D) : opd E (fnT n τ) = opF E n τ := by
  funext x; cases x <;> rfl

def WP (E : Env) (call : CallF) (f fuel : Nat) (c : Code) (Q : Ex → St → Prop) (s : St) : Prop :=
  ∃ ex s', evCode E call f fuel c s = some (ex, s') ∧ Q ex s'

def thenQ (W : St → Prop) (Q : Ex → St → Prop) : Ex → St → Prop
  | .normal, s => W s
  | ex, s => Q ex s

theorem WP.mono {c : Code} {Q' : Ex → St → Prop} (h : WP E call f fuel c Q s) (k : ∀ ex s, Q ex s → Q' ex s) : WP E call f fuel c Q' s := by
  obtain ⟨ex, s', h1, h2⟩ := h
  exact ⟨ex, s', h1, k _ _ h2⟩

theorem WP.skip (h : Q .normal s) : WP E call f fuel .skip Q s := ⟨_, _, rfl, h⟩
theorem WP.seq {a b : Code} (h : WP E call f fuel a (thenQ (WP E call f fuel b Q) Q) s) : WP E call f fuel (.seq a b) Q s := by
  obtain ⟨ex, s', h1, h2⟩ := h
  cases ex with
  | normal =>
    obtain ⟨ex, s'', h3, h4⟩ := h2
    exact ⟨ex, s'', by simp only [evCode, h1, h3], h4⟩
  | _ => exact ⟨_, s', by simp only [evCode, h1], h2⟩
theorem WP.cond {c : Operand} {a b : Code} {t : Bool} (hc : opd E s.T c = .bool t) (ht : t = true → WP E call f fuel a Q s) (hf : t = false → WP E call f fuel b Q s) : WP E call f fuel (.cond c a b) Q s := by
  cases t
  · obtain ⟨ex, s', h1, h2⟩ := hf rfl
    exact ⟨ex, s', by simp only [evCode, hc, h1], h2⟩
  · obtain ⟨ex, s', h1, h2⟩ := ht rfl
    exact ⟨ex, s', by simp only [evCode, hc, h1], h2⟩
def blockQ (id : Nat) (Q : Ex → St → Prop) : Ex → St → Prop
  | .exit j, s => if j = id then Q .normal s else Q (.exit j) s
  | ex, s => Q ex s
theorem WP.block {id : Nat} {c : Code} (h : WP E call f fuel c (blockQ id Q) s) : WP E call f fuel (.block id c) Q s := by
  obtain ⟨ex, s', h1, h2⟩ := h
  cases ex with
  | exit j =>
    simp only [blockQ] at h2
    by_cases e : j = id
    · rw [if_pos e] at h2
      exact ⟨_, s', by simp only [evCode, h1, e, if_true], h2⟩
    · rw [if_neg e] at h2
      exact ⟨_, s', by simp only [evCode, h1, e, if_false], h2⟩
  | _ => exact ⟨_, s', by simp only [evCode, h1], h2⟩
theorem WP.exit {id : Nat} (h : Q (.exit id) s) : WP E call f fuel (.exit id) Q s := ⟨_, _, rfl, h⟩
theorem WP.ret (h : Q .ret s) : WP E call f fuel .ret Q s := ⟨_, _, rfl, h⟩

theorem evLoop_inv {body : St → Option (Ex × St)} {clean : St → Option St} (I : Nat → St → Prop)
    (step : ∀ m s, I m s → ∃ s1 ex s2, clean s = some s1 ∧ body s1 = some (ex, s2) ∧ thenQ (fun s2 => ∃ m', m' < m ∧ I m' s2) Q ex s2) :
    (fuel m : Nat) → (s : St) → m < fuel → I m s → ∃ ex s', evLoop body clean fuel s = some (ex, s') ∧ Q ex s'
  | 0, _, _, h, _ => by omega
  | fuel + 1, m, s, h, hi => by
    obtain ⟨s1, ex, s2, h1, h2, h3⟩ := step m s hi
    cases ex with
    | normal =>
      obtain ⟨m', hm, hi'⟩ := h3
      obtain ⟨ex, s', k1, k2⟩ := evLoop_inv I step fuel m' s2 (by omega) hi'
      exact ⟨ex, s', by simp only [evLoop, h1, h2, k1], k2⟩
    | _ => exact ⟨_, s2, by simp only [evLoop, h1, h2], h3⟩

theorem WP.loop {body : Code} (m : Nat) (I : Nat → St → Prop) (hI : I m s) (hm : m < fuel)
    (step : ∀ m s', I m s' → ∃ s1, reset (E.live f (firstRegion body)) s.H.length s' = some s1 ∧ WP E call f fuel body (thenQ (fun s2 => ∃ m', m' < m ∧ I m' s2) Q) s1) :
    WP E call f fuel (.loop body) Q s := by
  have := evLoop_inv (Q := Q) (body := evCode E call f fuel body) (clean := reset (E.live f (firstRegion body)) s.H.length) I
    (fun m s' hi => by
      obtain ⟨s1, h1, ex, s2, h2, h3⟩ := step m s' hi
      exact ⟨s1, ex, s2, h1, h2, h3⟩) fuel m s hm hI
  obtain ⟨ex, s', h1, h2⟩ := this
  exact ⟨ex, s', by simp only [evCode, h1], h2⟩

/-! ### Regions -/
def exOf : Option D → Ex
  | none => .normal
  | some d => .panic d
def WPO (E : Env) (call : CallF) (f r : Nat) (ops : Array Oper) (i : Nat) (l : List Oper) (Q : Ex → St → Prop) (T : Ts) (H : Heap) : Prop :=
  ∃ od T' H', evOps E call f r ops i l T H = some (od, T', H') ∧ Q (exOf od) ⟨T', H'⟩

theorem WP.region {r : Nat} {ops : Array Oper} (h : WPO E call f r ops 0 ops.toList Q s.T s.H) : WP E call f fuel (.region r ops false) Q s := by
  obtain ⟨od, T', H', h1, h2⟩ := h
  cases od with
  | none => exact ⟨.normal, ⟨T', H'⟩, by simp only [evCode, h1], h2⟩
  | some d => exact ⟨.panic d, ⟨T', H'⟩, by simp only [evCode, h1], h2⟩

variable {r : Nat} {ops : Array Oper} {i n : Nat} {o : Oper} {l : List Oper} {τ : Nat → D} {H : Heap}

theorem WPO.nil (h : Q .normal ⟨fnT n τ, H⟩) : WPO E call f r ops i [] Q (fnT n τ) H := ⟨none, _, _, rfl, h⟩
theorem WPO.cons {t : Tmp} {d : D} {H' : Heap} (hg : wantD ops (fnT n τ) o = some true) (ho : evOp E call f r i o (opd E (fnT n τ)) H = some (.val d H')) (hd : o.dst = some t) (ht : t < n ∧ n ≤ 4000)
    (h : WPO E call f r ops (i + 1) l Q (fnT n (upd τ t d)) H') : WPO E call f r ops i (o :: l) Q (fnT n τ) H := by
  obtain ⟨od, T', H'', h1, h2⟩ := h
  exact ⟨od, T', H'', by simp only [evOps, hg, ho, put, hd, fnT_set ht.1 ht.2, h1], h2⟩
theorem WPO.cons0 {d : D} {H' : Heap} (hg : wantD ops (fnT n τ) o = some true) (ho : evOp E call f r i o (opd E (fnT n τ)) H = some (.val d H')) (hd : o.dst = none)
    (h : WPO E call f r ops (i + 1) l Q (fnT n τ) H') : WPO E call f r ops i (o :: l) Q (fnT n τ) H := by
  obtain ⟨od, T', H'', h1, h2⟩ := h
  exact ⟨od, T', H'', by simp only [evOps, hg, ho, put, hd, h1], h2⟩
theorem WPO.skip {t : Tmp} (hg : wantD ops (fnT n τ) o = some false) (hd : o.dst = some t) (ht : t < n ∧ n ≤ 4000)
    (h : WPO E call f r ops (i + 1) l Q (fnT n (upd τ t (.tup []))) H) : WPO E call f r ops i (o :: l) Q (fnT n τ) H := by
  obtain ⟨od, T', H'', h1, h2⟩ := h
  exact ⟨od, T', H'', by simp only [evOps, hg, put, hd, fnT_set ht.1 ht.2, h1], h2⟩
theorem WPO.skip0 (hg : wantD ops (fnT n τ) o = some false) (hd : o.dst = none)
    (h : WPO E call f r ops (i + 1) l Q (fnT n τ) H) : WPO E call f r ops i (o :: l) Q (fnT n τ) H := by
  obtain ⟨od, T', H'', h1, h2⟩ := h
  exact ⟨od, T', H'', by simp only [evOps, hg, put, hd, h1], h2⟩
theorem WPO.panic {d : D} {H' : Heap} (hg : wantD ops (fnT n τ) o = some true) (ho : evOp E call f r i o (opd E (fnT n τ)) H = some (.pan d H')) (h : Q (.panic d) ⟨fnT n τ, H'⟩) : WPO E call f r ops i (o :: l) Q (fnT n τ) H :=
  ⟨some d, _, _, by simp only [evOps, hg, ho], h⟩


/-! ### Steps for a walk -/
theorem WP.cond_t {c : Operand} {a b : Code} (hc : opd E s.T c = .bool true) (h : WP E call f fuel a Q s) : WP E call f fuel (.cond c a b) Q s := WP.cond hc (fun _ => h) (fun e => by cases e)
theorem WP.cond_f {c : Operand} {a b : Code} (hc : opd E s.T c = .bool false) (h : WP E call f fuel b Q s) : WP E call f fuel (.cond c a b) Q s := WP.cond hc (fun e => by cases e) (fun _ => h)
theorem WP.cond_s {c : Operand} {a b : Code} {t : Bool} (hc : opd E s.T c = .bool t) (h : ∀ t', t = t' → bif t' then WP E call f fuel a Q s else WP E call f fuel b Q s) : WP E call f fuel (.cond c a b) Q s :=
  WP.cond hc (fun e => by have := h true e; exact this) (fun e => by have := h false e; exact this)

/-- An operation whose value is a truth value: both ways. -/
theorem WPO.cmp {t : Tmp} {b : Bool} {H' : Heap} {bo : BinOp} {ty ty' : TypeId} {x y : Operand} (_ : o.op = .binOp bo ty x y ty') (hg : wantD ops (fnT n τ) o = some true) (ho : evOp E call f r i o (opd E (fnT n τ)) H = some (.val (.bool b) H')) (hd : o.dst = some t) (ht : t < n ∧ n ≤ 4000)
    (h : ∀ b', b = b' → WPO E call f r ops (i + 1) l Q (fnT n (upd τ t (.bool b'))) H') : WPO E call f r ops i (o :: l) Q (fnT n τ) H := WPO.cons hg ho hd ht (h b rfl)

theorem wr_in {k : IntKind} {m : Int} (h : k.min ≤ m ∧ m ≤ k.max) : wr k m = m := by
  rw [wr_eq]
  cases k <;> simp only [IntKind.min, IntKind.max, IntKind.wrap, IntKind.bits, IntKind.signed] at * <;> simp at * <;> omega

/-- An operation whose value is a number, cut to its kind: it fits. -/
theorem WPO.num {t : Tmp} {k : IntKind} {m : Int} {H' : Heap} (hg : wantD ops (fnT n τ) o = some true) (ho : evOp E call f r i o (opd E (fnT n τ)) H = some (.val (.int k (wr k m)) H')) (hd : o.dst = some t) (ht : t < n ∧ n ≤ 4000)
    (hr : k.min ≤ m ∧ m ≤ k.max) (h : WPO E call f r ops (i + 1) l Q (fnT n (upd τ t (.int k m))) H') : WPO E call f r ops i (o :: l) Q (fnT n τ) H := WPO.cons hg (by rw [ho, wr_in hr]) hd ht h

/-- A text's byte. -/
theorem WPO.idx {t : Tmp} {ty : TypeId} {x ix : Operand} {ag sz by_ zr} {k : IntKind} {j : Int} {b : List UInt8} (hg : wantD ops (fnT n τ) o = some true) (ho : o.op = .index ty x ix) (hti : E.ti ty = some ⟨ag, sz, by_, zr, .str⟩)
    (hx : opd E (fnT n τ) x = .str b) (hi : opd E (fnT n τ) ix = .int k j) (hd : o.dst = some t) (ht : t < n ∧ n ≤ 4000) (h0 : 0 ≤ j) (hlt : j.toNat < b.length)
    (h : ∀ ch, b[j.toNat]? = some ch → WPO E call f r ops (i + 1) l Q (fnT n (upd τ t (.int .u8 ch.toNat))) H) : WPO E call f r ops i (o :: l) Q (fnT n τ) H := by
  obtain ⟨ch, hch⟩ : ∃ ch, b[j.toNat]? = some ch := ⟨_, List.getElem?_eq_getElem hlt⟩
  refine WPO.cons hg ?_ hd ht (h ch hch)
  unfold evOp evPure
  rw [ho]
  have h0' : ¬ j < 0 := by omega
  simp [hti, hx, hi, h0', hch]

/-- A slot handed on. -/
theorem WPO.mv {t x : Tmp} {d : D} (hg : wantD ops (fnT n τ) o = some true) (ho : o.op = .move (.tmp x) ∨ o.op = .assign (.tmp x)) (hx : x < n) (hv : τ x = d) (hd : o.dst = some t) (ht : t < n ∧ n ≤ 4000)
    (h : WPO E call f r ops (i + 1) l Q (fnT n (upd τ t d)) H) : WPO E call f r ops i (o :: l) Q (fnT n τ) H := by
  refine WPO.cons hg ?_ hd ht h
  have e : opd E (fnT n τ) (.tmp x) = d := by simp only [opd, fnT_get hx ht.2, hv]
  unfold evOp evPure
  rcases ho with ho | ho <;> rw [ho] <;> simp [e]

/-- Slots, what they hold. -/
def updL (τ : Nat → D) : List (Nat × D) → Nat → D
  | [] => τ
  | (i, d) :: l => upd (updL τ l) i d
def holds (τ : Nat → D) : List (Nat × D) → Prop
  | [] => True
  | (i, d) :: l => τ i = d ∧ holds τ l
theorem updL_self (τ : Nat → D) : (l : List (Nat × D)) → holds τ l → updL τ l = τ
  | [], _ => rfl
  | (i, d) :: l, h => by
    funext j
    simp only [updL]
    by_cases e : j = i
    · subst e; rw [upd_same]; exact h.1.symm
    · rw [upd_ne _ _ e, updL_self τ l h.2]
/-- Of the slots just these matter from here on. -/
theorem forget {X : (Nat → D) → Prop} {τ : Nat → D} (l : List (Nat × D)) (h : holds τ l) (k : ∀ τ0, X (updL τ0 l)) : X τ := by
  have := k τ
  rwa [updL_self τ l h] at this

theorem thenQ_n {W : St → Prop} (h : W s) : thenQ W Q .normal s := h

theorem at_slots {n : Nat} {τ : Nat → D} {H H' : Heap} (l : List (Nat × D)) (h : holds τ l) (hH : H = H') : ∃ τ0, (⟨fnT n τ, H⟩ : St) = ⟨fnT n (updL τ0 l), H'⟩ := ⟨τ, by rw [updL_self τ l h, hH]⟩

/-! ### One step, as an equation -/
def putF (n : Nat) (τ : Nat → D) (dst : Option Tmp) (d : D) : Option (Nat → D) :=
  match dst with
  | none => some τ
  | some t => if t < n then some (upd τ t d) else none

theorem put_fnT (hn : n ≤ 4000) (dst : Option Tmp) (d : D) : put (fnT n τ) dst d = (putF n τ dst d).map (fnT n) := by
  cases dst with
  | none => rfl
  | some t =>
    simp only [put, putF]
    by_cases h : t < n
    · rw [if_pos h, fnT_set h hn]; rfl
    · rw [if_neg h]
      have hb : Nat.blt t n = false := by
        cases hb : Nat.blt t n
        · rfl
        · exact absurd (by simpa [Nat.blt_eq] using hb) h
      simp [Ts.set, fnT, hb]

/-- Slots as they stand: what an operand is. -/
def opv (E : Env) (τ : Nat → D) : Operand → D
  | .tmp t => τ t
  | .const v => ofVal v
  | .global g => match E.glob g with
    | some cells => .eptr cells 0
    | none => .top
  | .func f => .fn (.func f) [] []

/-- The code of a region, told by its slots (as far as they are there). -/
def WR (E : Env) (call : CallF) (f r : Nat) (ops : Array Oper) (n i : Nat) (l : List Oper) (Q : Ex → St → Prop) (τ : Nat → D) (H : Heap) : Prop := WPO E call f r ops i l Q (fnT n τ) H

theorem WR.nil : WR E call f r ops n i [] Q τ H ↔ Q .normal ⟨fnT n τ, H⟩ := by
  constructor
  · rintro ⟨od, T', H', h1, h2⟩
    simp only [evOps, Option.some.injEq, Prod.mk.injEq] at h1
    obtain ⟨rfl, rfl, rfl⟩ := h1
    exact h2
  · exact fun h => WPO.nil h
end
end Go.Cv
