/- From what a call's arguments read as to pure values; from a run of the evaluator to a contract. -/
import Derived.Test.YtlfkhemmgkdjjaaGreatDoorCvDrawn5
import Derived.ChangeShapes
import Derived.ChangeSame
import Derived.Carry
import Derived.OpenVars
namespace Go.Cv
open Go.RowKit Go.WideShapes Go.ChangeShapes

/-- The kinds of cells. -/
inductive Shape where
  | bool
  | int (k : IntKind)
  | str
  | slc (es : List Shape)

mutual
def Has : Shape → D → Prop
  | .bool, d => ∃ b, d = .bool b
  | .int k, d => ∃ n, d = .int k n ∧ k.min ≤ n ∧ n ≤ k.max
  | .str, d => ∃ s, d = .str s ∧ s.length ≤ maxLen
  | .slc es, d => ∃ xs, d = .slc xs ∧ xs.length ≤ maxLen ∧ ∀ x ∈ xs, HasL es x
def HasL : List Shape → List D → Prop
  | [], ds => ds = []
  | e :: es, ds => ∃ d ds', ds = d :: ds' ∧ Has e d ∧ HasL es ds'
end

def fieldsAt (P : Program) : Nat → List Field → Option Nat
  | o, [] => some o
  | o, f :: fs => if f.offset = o then fieldsAt P (o + P.cellsOf f.type) fs else none

def shapesL (rec : TypeId → Option (List Shape)) : List Field → Option (List Shape)
  | [] => some []
  | f :: fs => match rec f.type, shapesL rec fs with
    | some a, some b => some (a ++ b)
    | _, _ => none

def shapes (P : Program) : Nat → TypeId → Option (List Shape)
  | 0, _ => none
  | k + 1, t => match P.underlying t with
    | some .bool => some [.bool]
    | some (.int q) => some [.int q]
    | some .string => some [.str]
    | some (.slice e) => match shapes P k e with
      | some es => if es.length = P.cellsOf e ∧ es ≠ [] then some [.slc es] else none
      | none => none
    | some (.struct fs) => if fieldsAt P 0 fs.toList = some (P.cellsOf t) then shapesL (shapes P k) fs.toList else none
    | _ => none

theorem Has.leaf {e : Shape} {d : D} (h : Has e d) : Cv.leaf d = true ∧ idFree d = true := by
  cases e <;> simp only [Has] at h
  · obtain ⟨b, rfl⟩ := h; exact ⟨rfl, rfl⟩
  · obtain ⟨n, rfl, _⟩ := h; exact ⟨rfl, rfl⟩
  · obtain ⟨n, rfl, _⟩ := h; exact ⟨rfl, rfl⟩
  · obtain ⟨n, rfl, _⟩ := h; exact ⟨rfl, rfl⟩

theorem HasL.append {as bs : List Shape} {xs ys : List D} (h : HasL as xs) (k : HasL bs ys) : HasL (as ++ bs) (xs ++ ys) := by
  induction as generalizing xs with
  | nil => simp only [HasL] at h; subst h; simpa using k
  | cons a as ih =>
    simp only [HasL] at h
    obtain ⟨d, ds, rfl, h1, h2⟩ := h
    simp only [List.cons_append, HasL]
    exact ⟨d, ds ++ ys, rfl, h1, ih h2⟩

theorem HasL.length {as : List Shape} {xs : List D} (h : HasL as xs) : xs.length = as.length := by
  induction as generalizing xs with
  | nil => simp only [HasL] at h; subst h; rfl
  | cons a as ih =>
    simp only [HasL] at h
    obtain ⟨d, ds, rfl, h1, h2⟩ := h
    simp [ih h2]

theorem HasL.get {as : List Shape} {xs : List D} (h : HasL as xs) (i : Nat) (d : D) (hd : xs[i]? = some d) : ∃ e, Has e d := by
  induction as generalizing xs i with
  | nil => simp only [HasL] at h; subst h; simp at hd
  | cons a as ih =>
    simp only [HasL] at h
    obtain ⟨x, ds, rfl, h1, h2⟩ := h
    cases i with
    | zero => simp at hd; subst hd; exact ⟨a, h1⟩
    | succ i => exact ih h2 i (by simpa using hd)

section
variable {H : Type} {enc : TypeId × Value → H} {P : Program} {c : Ctx} {base : Nat} {spare : Nat → Bool} {held : Bool}

/-- The fields' parts, put together. -/
theorem fields_rep (rec : TypeId → Option (List Shape)) (R : TypeId → List Value → Option (DataW H × List MemPlace)) (hrec : ∀ t cs x ss, R t cs = some x → rec t = some ss → ∃ ds, HasL ss ds ∧ RepL c ds cs)
    (cs : List Value) : (fs : List Field) → (o e : Nat) → fieldsAt P o fs = some e → e ≤ cs.length → (∀ f ∈ fs, ∃ x, R f.type ((cs.drop f.offset).take (P.cellsOf f.type)) = some x) → ∀ ss, shapesL rec fs = some ss →
      o ≤ e ∧ ∃ ds, HasL ss ds ∧ RepL c ds ((cs.drop o).take (e - o))
  | [], o, e, hf, _, hm, ss, hs => by
    simp only [fieldsAt, Option.some.injEq] at hf
    simp only [shapesL, Option.some.injEq] at hs
    subst hf; subst hs
    exact ⟨Nat.le_refl _, [], by simp [HasL], by simp [RepL]⟩
  | f :: fs, o, e, hf, he, hm, ss, hs => by
    simp only [fieldsAt] at hf
    split at hf
    case isFalse => cases hf
    rename_i ho
    simp only [shapesL] at hs
    split at hs
    case h_2 => cases hs
    rename_i a b ha hb
    injection hs with hs
    subst hs
    obtain ⟨x, hx⟩ := hm f (by simp)
    obtain ⟨h1, ds2, h2, h3⟩ := fields_rep rec R hrec cs fs _ e hf he (fun g hg => hm g (by simp [hg])) b hb
    obtain ⟨ds1, h4, h5⟩ := hrec _ _ _ _ hx ha
    refine ⟨by omega, ds1 ++ ds2, h4.append h2, ?_⟩
    have key : (cs.drop o).take (e - o) = (cs.drop f.offset).take (P.cellsOf f.type) ++ (cs.drop (o + P.cellsOf f.type)).take (e - (o + P.cellsOf f.type)) := by
      rw [ho]
      have : e - o = P.cellsOf f.type + (e - (o + P.cellsOf f.type)) := by omega
      rw [this, List.take_add]
      simp [List.drop_drop]
    rw [key]
    exact h5.append h3

theorem rows_of (hR : ∀ b o, ¬ c.R b o) {sz : Nat} {es : List Shape} (hl : es.length = sz) (b o : Nat) :
    (n : Nat) → (∀ i, i < n → ∃ cs ds, cs.length = sz ∧ (∀ j, j < sz → c.w.cell? ⟨b, o + i * sz + j, none⟩ = cs[j]?) ∧ HasL es ds ∧ RepL c ds cs) →
    ∃ xs : List (List D), xs.length = n ∧ (∀ x ∈ xs, HasL es x) ∧ RepRows c sz xs b o
  | 0, _ => ⟨[], rfl, by simp, by simp [RepRows]⟩
  | n + 1, h => by
    obtain ⟨cs, ds, h1, h2, h3, h4⟩ := h 0 (by omega)
    obtain ⟨xs, k1, k2, k3⟩ := rows_of hR hl b (o + sz) n fun i hi => by
      obtain ⟨cs, ds, g1, g2, g3, g4⟩ := h (i + 1) (by omega)
      exact ⟨cs, ds, g1, fun j hj => by rw [← g2 j hj]; congr 2; rw [Nat.add_mul]; omega, g3, g4⟩
    refine ⟨ds :: xs, by simp [k1], ?_, ?_⟩
    · intro x hx
      rcases List.mem_cons.1 hx with rfl | hx
      · exact h3
      · exact k2 x hx
    · simp only [RepRows]
      refine ⟨by rw [h3.length, hl], RepCells.of fun i d hd => ?_, k3⟩
      obtain ⟨e, he⟩ := h3.get i d hd
      obtain ⟨u, hu, hr⟩ := h4.get i d hd
      refine ⟨he.leaf.2, he.leaf.1, u, ?_, hR _ _, hr⟩
      have hi : i < sz := by
        have := (List.getElem?_eq_some_iff.1 hd).1
        rw [h3.length, hl] at this; exact this
      have := h2 i hi
      simp only [Nat.zero_mul, Nat.add_zero] at this
      rw [this, hu]

theorem trod_rep (hR : ∀ b o, ¬ c.R b o) : (fuel : Nat) → (t : TypeId) → (cs : List Value) → (x : DataW H × List MemPlace) → DataW.trod enc P c.w base spare held fuel t cs = some x →
    ∀ k ss, shapes P k t = some ss → ∃ ds, HasL ss ds ∧ RepL c ds cs
  | 0, _, _, _, h, _, _, _ => by simp [DataW.trod] at h
  | fuel + 1, t, cs, x, h, 0, ss, hs => by simp [shapes] at hs
  | fuel + 1, t, cs, x, h, k + 1, ss, hs => by
    simp only [shapes] at hs
    split at hs
    · rename_i hu
      injection hs with hs; subst hs
      obtain ⟨b, rfl, _⟩ := DataW.trod_bool hu h
      exact ⟨[.bool b], by simp [HasL, Has], by simp [RepL, Rep]⟩
    · rename_i q hu
      injection hs with hs; subst hs
      obtain ⟨n, rfl, _, hw⟩ := DataW.trod_int hu h
      simp only [Lit.wf, Bool.and_eq_true, decide_eq_true_eq] at hw
      exact ⟨[.int q n], by simp only [HasL, Has]; exact ⟨_, _, rfl, ⟨n, rfl, hw.1, hw.2⟩, rfl⟩, by simp [RepL, Rep]⟩
    · rename_i hu
      injection hs with hs; subst hs
      obtain ⟨s, rfl, _, hl⟩ := DataW.trod_string hu h
      refine ⟨[.str s.data.toList], ?_, ?_⟩
      · simp only [HasL, Has]
        exact ⟨_, _, rfl, ⟨_, rfl, by simpa using hl⟩, rfl⟩
      · simp only [RepL, Rep]
        exact ⟨_, _, rfl, by simp, rfl⟩
    · rename_i e hu
      split at hs
      case h_2 => cases hs
      rename_i es hes
      split at hs
      case isFalse => cases hs
      rename_i hle
      injection hs with hs; subst hs
      rcases DataW.trod_slice hu h with ⟨rfl, _⟩ | ⟨a, len, cap, elems, rest, m, hm, rfl, _, hb, hlc, hcm, hln, hel, _, _⟩
      · refine ⟨[.slc []], by simp [HasL, Has], ?_⟩
        simp only [RepL, Rep]
        exact ⟨_, _, rfl, ⟨none, 0, 0, rfl, rfl, by simp, by simp, .inl trivial⟩, rfl⟩
      · obtain rfl : fuel = m := by omega
        have hpos : 0 < P.cellsOf e := by
          have h1 := hle.1
          have h2 : es.length ≠ 0 := fun h => hle.2 (List.eq_nil_of_length_eq_zero h)
          omega
        have key : ∀ i, i < len → ∃ cs ds, cs.length = P.cellsOf e ∧ (∀ j, j < P.cellsOf e → c.w.cell? ((a.add (i * P.cellsOf e)).add j) = cs[j]?) ∧ HasL es ds ∧ RepL c ds cs := fun i hi => by
          have h1 := hel i hi
          have h2 : ∃ y, elems[i]? = some y := by
            rw [List.getElem?_eq_getElem (by omega)]; exact ⟨_, rfl⟩
          obtain ⟨y, hy⟩ := h2
          rw [hy, Option.bind_eq_some_iff] at h1
          obtain ⟨ds0, h3, h4⟩ := h1
          obtain ⟨_, h5, h6⟩ := World.cells?_some h3
          obtain ⟨ds, h7, h8⟩ := trod_rep hR fuel e ds0 y h4 k es hes
          exact ⟨ds0, ds, h5, h6, h7, h8⟩
        obtain ⟨b, o, spot⟩ := a
        rcases Nat.eq_zero_or_pos len with rfl | hlen
        · refine ⟨[.slc []], by simp [HasL, Has], ?_⟩
          simp only [RepL, Rep]
          exact ⟨_, _, rfl, ⟨_, 0, cap, rfl, rfl, hlc, hcm, .inl trivial⟩, rfl⟩
        · obtain ⟨cs0, ds0, g1, g2, _⟩ := key 0 hlen
          have hspot : spot = none := by
            have h1 := g2 0 hpos
            have h2 : ∃ y, cs0[0]? = some y := by rw [List.getElem?_eq_getElem (by omega)]; exact ⟨_, rfl⟩
            obtain ⟨y, hy⟩ := h2
            rw [hy] at h1
            simpa [Addr.add] using World.cell?_spot h1
          subst hspot
          obtain ⟨xs, k1, k2, k3⟩ := rows_of hR hle.1 b o len (fun i hi => by
            obtain ⟨cs1, ds1, g1, g2, g3, g4⟩ := key i hi
            exact ⟨cs1, ds1, g1, fun j hj => by have h := g2 j hj; rwa [add_plain, add_plain] at h, g3, g4⟩)
          refine ⟨[.slc xs], ?_, ?_⟩
          · simp only [HasL, Has]
            exact ⟨_, _, rfl, ⟨xs, rfl, by omega, k2⟩, rfl⟩
          · simp only [RepL, Rep]
            exact ⟨_, _, rfl, ⟨_, len, cap, rfl, k1.symm, hlc, hcm, .inr ⟨b, o, _, rfl, k3⟩⟩, rfl⟩
    · rename_i fs hu
      split at hs
      case isFalse => cases hs
      rename_i hfa
      obtain ⟨xs, m, hm, hx, hlen, hxl, hmap⟩ := DataW.trod_struct hu h
      obtain rfl : fuel = m := by omega
      obtain ⟨_, ds, h1, h2⟩ := fields_rep (c := c) (P := P) (shapes P k) (DataW.trod enc P c.w base spare held fuel) (fun t cs x ss h1 h2 => trod_rep hR fuel t cs x h1 k ss h2) cs fs.toList 0 _ hfa (by omega) (fun f hf => by
        obtain ⟨i, hi, rfl⟩ := List.getElem_of_mem hf
        have h1 := hmap i fs.toList[i] (by simp)
        have h2 : ∃ y, xs[i]? = some y := by
          rw [List.getElem?_eq_getElem (by simp at hi; omega)]; exact ⟨_, rfl⟩
        obtain ⟨y, hy⟩ := h2
        exact ⟨y, h1.trans hy⟩) ss hs
      refine ⟨ds, h1, ?_⟩
      simp only [List.drop_zero, Nat.sub_zero] at h2
      rwa [List.take_of_length_le (by omega)] at h2
    · cases hs

/-! ### Arguments -/
/-- A parameter: is it a struct; its cells' kinds. -/
structure Par where
  agg : Bool
  ss : List Shape

def HasP (p : Par) (d : D) : Prop := if p.agg then ∃ cs, d = .agg cs ∧ HasL p.ss cs else HasL p.ss [d]

def HasPs : List Par → List D → Prop
  | [], ds => ds = []
  | p :: ps, ds => ∃ d ds', ds = d :: ds' ∧ HasP p d ∧ HasPs ps ds'

def parOf (P : Program) (t : TypeId) : Option Par :=
  match P.underlying t with
  | some (.struct _) => (shapes P 20 t).map fun ss => ⟨true, ss⟩
  | some .bool | some (.int _) | some .string | some (.slice _) => (shapes P 20 t).map fun ss => ⟨false, ss⟩
  | _ => none

def parsOf (P : Program) : List TypeId → Option (List Par)
  | [] => some []
  | t :: ts => match parOf P t, parsOf P ts with
    | some p, some ps => some (p :: ps)
    | _, _ => none

theorem arg_rep (hR : ∀ b o, ¬ c.R b o) {r : Reach} {bb : Nat} {t : TypeId} {v : Value} {d : DataW H} {ps : List MemPlace} (hok : Value.okWide P c.w r bb t v) (h : DataW.Trod enc P c.w base spare held t v d ps) {p : Par} (hp : parOf P t = some p) :
    ∃ d, HasP p d ∧ Rep c d v := by
  obtain ⟨fuel, hf⟩ := h
  unfold parOf at hp
  have single : ∀ ss, shapes P 20 t = some ss → v.cells.toList = [v] → p = ⟨false, ss⟩ → ∃ d, HasP p d ∧ Rep c d v := fun ss hss hv hp => by
    obtain ⟨ds, h1, h2⟩ := trod_rep hR fuel t _ _ hf 20 ss hss
    rw [hv] at h2
    have hl := h2.length
    match ds, hl with
    | [d], _ =>
      simp only [RepL] at h2
      obtain ⟨u, us, he, h3, h4⟩ := h2
      simp only [List.cons.injEq] at he
      obtain ⟨rfl, _⟩ := he
      exact ⟨d, by rw [hp]; simpa [HasP] using h1, h3⟩
  split at hp
  · rename_i fs hu
    obtain ⟨cs, rfl, _⟩ := okWide_struct hu hok
    simp only [Option.map_eq_some_iff] at hp
    obtain ⟨ss, hss, rfl⟩ := hp
    obtain ⟨ds, h1, h2⟩ := trod_rep hR fuel t _ _ hf 20 ss hss
    refine ⟨.agg ds, by simp only [HasP, if_true]; exact ⟨ds, rfl, h1⟩, ?_⟩
    simp only [Rep]
    exact ⟨cs, rfl, h2⟩
  · rename_i hu
    simp only [Option.map_eq_some_iff] at hp
    obtain ⟨ss, hss, rfl⟩ := hp
    obtain ⟨b, rfl⟩ := okWide_bool hu hok
    exact single ss hss rfl rfl
  · rename_i hu
    simp only [Option.map_eq_some_iff] at hp
    obtain ⟨ss, hss, rfl⟩ := hp
    obtain ⟨b, rfl⟩ := okWide_int hu hok
    exact single ss hss rfl rfl
  · rename_i hu
    simp only [Option.map_eq_some_iff] at hp
    obtain ⟨ss, hss, rfl⟩ := hp
    obtain ⟨b, rfl⟩ := okWide_string hu hok
    exact single ss hss rfl rfl
  · rename_i hu
    simp only [Option.map_eq_some_iff] at hp
    obtain ⟨ss, hss, rfl⟩ := hp
    obtain ⟨a, len, cap, rfl⟩ := okWide_slice hu hok
    exact single ss hss rfl rfl
  · cases hp

theorem args_rep (hR : ∀ b o, ¬ c.R b o) {r : Reach} {bb : Nat} : (ts : List TypeId) → (vs : List Value) → (ds : List (DataW H)) → (ps : List MemPlace) → DataW.TrodAll enc P c.w base spare held ts vs ds ps →
    (∀ (j : Nat) t v, ts[j]? = some t → vs[j]? = some v → Value.okWide P c.w r bb t v) → (pars : List Par) → parsOf P ts = some pars → ∃ as, HasPs pars as ∧ RepL c as vs
  | [], vs, ds, ps, h, _, pars, hp => by
    obtain ⟨rfl, rfl, rfl⟩ := trodAll_nil h
    simp only [parsOf, Option.some.injEq] at hp
    subst hp
    exact ⟨[], by simp [HasPs], by simp [RepL]⟩
  | t :: ts, vs, ds, ps, h, hok, pars, hp => by
    obtain ⟨v, vs', d, ds', p, q, rfl, rfl, rfl, h1, h2⟩ := trodAll_cons h
    simp only [parsOf] at hp
    split at hp
    case h_2 => cases hp
    rename_i pa pas ha hb
    injection hp with hp
    subst hp
    obtain ⟨a, k1, k2⟩ := arg_rep hR (hok 0 t v rfl rfl) h1 ha
    obtain ⟨as, k3, k4⟩ := args_rep hR ts vs' ds' q h2 (fun j t v ht hv => hok (j + 1) t v (by simpa using ht) (by simpa using hv)) pas hb
    exact ⟨a :: as, by simp only [HasPs]; exact ⟨a, as, rfl, k1, k3⟩, by simp only [RepL]; exact ⟨v, vs', rfl, k2, k4⟩⟩

theorem trodAll_stays (hl : laidOutB P = true) {W W' : World} {sp' : Nat → Bool} : (ts : List TypeId) → (∀ t ∈ ts, P.readableRec t = true ∧ t < P.types.size) → (vs : List Value) → (ds : List (DataW H)) → (ps : List MemPlace) →
    DataW.TrodAll enc P W base (fun _ => true) true ts vs ds ps → (∀ p ∈ ps, W.sameAt W' p) → (∀ p ∈ ps, sp' p.block = true) → DataW.TrodAll enc P W' base sp' true ts vs ds ps
  | [], _, vs, ds, ps, h, _, _ => by
    obtain ⟨rfl, rfl, rfl⟩ := trodAll_nil h
    rfl
  | t :: ts, ht, vs, ds, ps, h, h1, h2 => by
    obtain ⟨v, vs', d, ds', p, q, rfl, rfl, rfl, k1, k2⟩ := trodAll_cons h
    exact ⟨p, q, WideElems.Trod_stays hl (ht t (by simp)).1 (ht t (by simp)).2 k1 (fun x hx => h1 x (by simp [hx])) (fun x hx => h2 x (by simp [hx])),
      trodAll_stays hl ts (fun u hu => ht u (by simp [hu])) vs' ds' q k2 (fun x hx => h1 x (by simp [hx])) (fun x hx => h2 x (by simp [hx])), rfl⟩

/-- A call that leaves the old memory as it was, hands its arguments back, and names no variable. -/
theorem post_of_below {f : Func} {s : ChangeSpec} {apart fresh handsOn again : Bool} {W W' : World} {args : Array Value} {v : Value} {ds gs : List (DataW H)} {before : List MemPlace}
    (hl : laidOutB P = true) (hpar : ∀ t ∈ f.params.toList, P.readableRec t = true ∧ t < P.types.size) (hvs : s.vars = [])
    (hW : DataW.Whole enc P f.params.toList s.vars apart W args.toList ds gs before) (hb : Below W.heap.size W W')
    (hres : ∀ (b : Nat) (sp : Nat → Bool) (hd : Bool), DataW.TrodAll enc P W' b sp hd f.resultTypes.toList (v.resultList f.resultTypes.size) (s.fn H (ds ++ gs)).results [])
    (hargs : (s.fn H (ds ++ gs)).args = ds) (hvars : (s.fn H (ds ++ gs)).vars = [])
    (hok : ∀ (j : Nat) (t : TypeId) (r : Value), f.resultTypes[j]? = some t → (v.resultList f.resultTypes.size)[j]? = some r → Value.okWide P W' .any 0 t r) :
    s.post enc P f apart fresh handsOn again W args v W' := by
  have hlt := hW.lt
  obtain ⟨p, q, h1, h2, rfl, h3, h4⟩ := hW
  have h2' := h2
  rw [hvs] at h2'
  obtain ⟨rfl, rfl⟩ := trodVars_none h2'
  simp only [List.append_nil] at *
  have hsame : ∀ x ∈ p, W.sameAt W' x := fun x hx => hb.same (hlt x hx)
  have stays : ∀ sp : Nat → Bool, (∀ x ∈ p, sp x.block = true) → DataW.TrodAll enc P W' 0 sp true f.params.toList args.toList ds p := fun sp hsp =>
    trodAll_stays hl _ hpar _ _ _ h1 hsame hsp
  have hfz : W'.noneFrozen p := fun b off hp => by
    rw [hb.frozen (hlt _ hp)]
    exact h3 b off hp
  refine ⟨ds, [], p, [], p, [], ⟨p, [], h1, by rw [hvs]; rfl, by simp, h3, h4⟩, ?_, ?_, ?_, ?_, fun _ => ⟨hok, ?_⟩⟩
  · simp only [List.append_nil]; exact hres _ _ _
  · simp only [List.append_nil]; rw [hargs]; exact stays _ fun x hx => by simpa using hlt x hx
  · simp only [List.append_nil]; rw [hvs, hvars]; rfl
  · exact hb.frame _
  · refine ⟨(s.fn H ds).results ++ ds, [], p, ⟨p, [], ?_, by rw [hvs]; rfl, by simp, hfz, h4⟩, fun x hx _ => hx⟩
    have := trodAll_append (stays (fun _ => true) fun _ _ => rfl) (hres 0 (fun _ => true) true)
    simpa using this

/-! ### A law -/
def ctx0 (W : World) : Ctx := { w := W, R := fun _ _ => False, η := fun _ => 0, κ := fun _ => 0, σ := fun _ => 0, H := fun _ => none }

theorem inv0 {E : Env} {W : World} (hg : ∀ g cells, E.glob g = some cells → RepCells (ctx0 W) cells g 0) : Inv E (ctx0 W) :=
  ⟨fun _ _ _ _ h => by simp [ctx0] at h, fun _ _ _ h => h, fun _ _ h => by simp [ctx0] at h, hg⟩

theorem below_of_step {W : World} {c' : Ctx} (h : Step (ctx0 W) c') : Below W.heap.size W c'.w :=
  ⟨h.os, h.tape, h.output, h.size, fun k hk => (h.frame k hk fun i ob hi => by simp [ctx0] at hi).1⟩

/-- What a law's run comes to: it holds. -/
theorem law_calls {E : Env} (hE : EnvOK P E) (hO : OrcOK P E) {fn : Func} {f : FuncId} {s : ChangeSpec} {apart fresh handsOn again : Bool}
    (hf : P.funcs[f]? = some fn) (hbody : fn.body.isSome = true) (hl : laidOutB P = true) (hpar : ∀ t ∈ fn.params.toList, P.readableRec t = true ∧ t < P.types.size) (hvs : s.vars = [])
    {bt : TypeId} (hrt : fn.resultTypes = #[bt]) (hbt : P.underlying bt = some .bool)
    {pars : List Par} (hpars : parsOf P fn.params.toList = some pars)
    (hfn : ∀ ds : List (DataW H), ds.length = pars.length → s.fn H ds = { results := [.lit (.bool true)], args := ds, vars := [] })
    (hres : ∀ as, HasPs pars as → ∃ k H', pcall E k f as [] = some (.ret (.bool true), H'))
    {W : World} (hg : ∀ g cells, E.glob g = some cells → RepCells (ctx0 W) cells g 0) {bb : Nat} {args : Array Value} {ds gs : List (DataW H)} {before : List MemPlace}
    (hval : ∀ (j : Nat) t v, fn.params[j]? = some t → args[j]? = some v → Value.okWide P W .any bb t v)
    (hW : DataW.Whole enc P fn.params.toList s.vars apart W args.toList ds gs before) :
    Calls P f args W fun e W' => ∃ v, e = .returned v ∧ s.post enc P fn apart fresh handsOn again W args v W' := by
  have hW' := hW
  obtain ⟨p, q, h1, h2, rfl, h3, h4⟩ := hW'
  rw [hvs] at h2
  obtain ⟨rfl, rfl⟩ := trodVars_none h2
  obtain ⟨as, k1, k2⟩ := args_rep (c := ctx0 W) (P := P) (fun _ _ h => h) _ _ _ _ h1 (fun j t v ht hv => hval j t v (by simpa using ht) (by simpa using hv)) pars hpars
  have hlen : ds.length = pars.length := by
    have e1 : ∀ (ts : List TypeId) (vs : List Value) (ds : List (DataW H)) (ps : List MemPlace), DataW.TrodAll enc P W 0 (fun _ => true) true ts vs ds ps → ds.length = ts.length := fun ts => by
      induction ts with
      | nil => intro vs ds ps h; obtain ⟨_, rfl, _⟩ := trodAll_nil h; rfl
      | cons t ts ih =>
        intro vs ds ps h
        obtain ⟨v, vs', d, ds', p, q, rfl, rfl, rfl, _, k⟩ := trodAll_cons h
        simp [ih _ _ _ k]
    have e2 : ∀ (ts : List TypeId) (pars : List Par), parsOf P ts = some pars → pars.length = ts.length := fun ts => by
      induction ts with
      | nil => intro pars h; simp only [parsOf, Option.some.injEq] at h; subst h; rfl
      | cons t ts ih =>
        intro pars h
        simp only [parsOf] at h
        split at h
        case h_2 => cases h
        rename_i a b ha hb
        injection h with h
        subst h
        simp [ih _ hb]
    rw [e1 _ _ _ _ h1, e2 _ _ hpars]
  obtain ⟨k, H', hr⟩ := hres as k1
  have hx := pcall_ok hE hO k (ctx0 W) [] f as args _ H' (inv0 hg) (by funext i; simp [ctx0]) k2 hr
  rcases hx with ⟨_, hc⟩ | ⟨⟨fn', hf', hb'⟩, _⟩
  rotate_left
  · rw [hf] at hf'; injection hf' with hf'; subst hf'; rw [hb'] at hbody; cases hbody
  refine hc.mono fun e w' h => ?_
  obtain ⟨c', rfl, hs, _, _, v, rfl, hv⟩ := h
  simp only [Rep] at hv
  subst hv
  refine ⟨_, rfl, post_of_below hl hpar hvs hW (below_of_step hs) ?_ ?_ ?_ ?_⟩
  · intro b sp hd
    simp only [List.append_nil]
    rw [hfn ds hlen, hrt]
    exact trodAll_mk1 (shut_bool hbt true)
  · simp only [List.append_nil]; rw [hfn ds hlen]
  · simp only [List.append_nil]; rw [hfn ds hlen]
  · exact ok_one hrt rfl (okWide_bool_mk hbt true)
end
end Go.Cv
