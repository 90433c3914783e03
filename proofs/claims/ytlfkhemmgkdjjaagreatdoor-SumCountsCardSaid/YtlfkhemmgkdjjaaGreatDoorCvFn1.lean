/- Functions of layer 4's guard: they come to an end; what they tell. -/
import Derived.Test.YtlfkhemmgkdjjaaGreatDoorCvSeat
import Derived.Test.YtlfkhemmgkdjjaaGreatDoorCvRowd
set_option maxRecDepth 100000
set_option linter.unusedVariables false
set_option linter.unusedSimpArgs false
namespace Go.Cv
open Go.Proofs

theorem pcall_ret {k f : Nat} {args : List D} {H : Heap} {fn : Func} {c : Code} (ho : orcT f = none) (hc : E0.code f = some fn) (hb : fn.body = some c) (hl : Nat.ble args.length fn.ntmps = true) {Q : D → Heap → Prop}
    (h : WP E0 (pcall E0 k) f k c (fun ex s => (ex = .normal ∨ ex = .ret) ∧ ∃ d, resultsD E0 fn s.T s.H = some d ∧ Q d s.H) ⟨Ts.of fn.ntmps args, H⟩) :
    ∃ d H', pcall E0 (k + 1) f args H = some (.ret d, H') ∧ Q d H' := by
  obtain ⟨ex, s, h1, h2, d, h3, h4⟩ := h
  refine ⟨d, s.H, ?_, h4⟩
  have ho' : E0.orc f = none := ho
  rcases h2 with rfl | rfl <;> simp only [pcall, ho', hc, hb, hl, if_true, h1, h3, Option.map_some]

/-- A truth value; if it is true, then so. -/
def IsB (P : Prop) (d : D) : Prop := ∃ b, d = .bool b ∧ (b = true → P)
def IsN (d : D) : Prop := ∃ n, d = .int .i64 n ∧ in64 n
theorem plain_isB {P : Prop} {d : D} (h : IsB P d) : plainD d := by obtain ⟨b, rfl, _⟩ := h; exact plain_bool b
theorem plain_isN {d : D} (h : IsN d) : plainD d := by obtain ⟨b, rfl, _⟩ := h; exact plain_int _ b

def fewV (v : GValue) : Prop := v.s.length ≤ 200 ∧ v.l.length ≤ 40
def fewA (l : List GAttr) : Prop := l.length ≤ 40 ∧ ∀ a ∈ l, a.name.length ≤ 100 ∧ fewV a.v
def fewR (r : GRow) : Prop := r.key.length ≤ 100 ∧ r.st.origin.length ≤ 100 ∧ fewA r.attrs

set_option maxHeartbeats 4000000 in
theorem f142 (k : Nat) (n : Int) : ∃ d H', pcall E0 (k + 1) 142 [.int .i64 n] [] = some (.ret d, H') ∧ IsB True d := by
  refine pcall_ret (fn := Tryz.f142) (Q := fun d _ => IsB True d) rfl rfl rfl rfl ?_
  rw [of_fnT]
  repeat' (first
    | apply WP.seq
    | apply WP.reg
    | (apply WPS.mv; exact .inl rfl; exact rfl; exact rfl; decide; (conv => lhs; whnf); exact rfl; decide)
    | (apply WPS.mv; exact .inr rfl; exact rfl; exact rfl; decide; (conv => lhs; whnf); exact rfl; decide)
    | (apply WPS.cmp; exact rfl; exact rfl; exact rfl; exact rfl; exact rfl; decide; rintro (_ | _) hb)
    | (apply WPS.idx; exact rfl; exact rfl; exact rfl; exact rfl; exact rfl; exact rfl; exact rfl; decide; (first | omega | (simp only [decide_eq_true_eq, decide_eq_false_iff_not, IntKind.min, IntKind.max, IntKind.bits, IntKind.signed, List.length_map, in64] at *; omega)); (first | omega | (simp only [decide_eq_true_eq, decide_eq_false_iff_not, IntKind.min, IntKind.max, IntKind.bits, IntKind.signed, List.length_map, in64] at *; omega)); refine fun ch hch => ?_)
    | (apply WPS.idxK; exact rfl; exact rfl; exact rfl; exact rfl; exact rfl; exact rfl; exact rfl; exact rfl; decide; exact fun _ => rfl; (first | omega | (simp only [decide_eq_true_eq, decide_eq_false_iff_not, IntKind.min, IntKind.max, IntKind.bits, IntKind.signed, List.length_map, in64] at *; omega)); assumption)
    | (apply WPS.idxA; exact rfl; exact rfl; exact rfl; exact rfl; exact rfl; exact rfl; exact rfl; exact rfl; decide; exact fun _ => rfl; (first | omega | (simp only [decide_eq_true_eq, decide_eq_false_iff_not, IntKind.min, IntKind.max, IntKind.bits, IntKind.signed, List.length_map, in64] at *; omega)); (first | omega | (simp only [decide_eq_true_eq, decide_eq_false_iff_not, IntKind.min, IntKind.max, IntKind.bits, IntKind.signed, List.length_map, in64] at *; omega)); refine fun a ha => ?_)
    | (apply WPS.num; exact rfl; exact rfl; exact rfl; exact rfl; exact rfl; decide; exact ⟨by first | omega | (simp only [decide_eq_true_eq, decide_eq_false_iff_not, IntKind.min, IntKind.max, IntKind.bits, IntKind.signed, List.length_map, in64] at *; omega), by first | omega | (simp only [decide_eq_true_eq, decide_eq_false_iff_not, IntKind.min, IntKind.max, IntKind.bits, IntKind.signed, List.length_map, in64] at *; omega)⟩)
    | (apply WPS.val; exact rfl; exact rfl; exact rfl; exact rfl; (conv => lhs; whnf); exact rfl; decide)
    | (apply WPS.pure; exact rfl; exact rfl; exact rfl; exact rfl; exact rfl; decide)
    | (apply WPS.eff; exact rfl; exact rfl; exact rfl; exact rfl; exact rfl; exact rfl; decide)
    | (apply WPS.eff0; exact rfl; exact rfl; exact rfl; exact rfl; exact rfl; exact rfl)
    | (apply WPS.skip; exact rfl; exact rfl; decide)
    | (apply WPS.skip0; exact rfl; exact rfl)
    | (apply WPS.nil; exact rfl)
    | (apply WP.cond_t; exact rfl)
    | (apply WP.cond_f; exact rfl)
    | apply WP.skip
    | apply WP.exit
    | (apply WP.ret; refine ⟨.inr rfl, ?_⟩; refine ⟨_, rfl, ?_⟩)
    | apply WP.block)
  all_goals exact ⟨_, rfl, fun _ => trivial⟩

set_option maxHeartbeats 4000000 in
theorem f166 (k : Nat) (v : GValue) : ∃ d H', pcall E0 (k + 1) 166 [.agg (encV v)] [] = some (.ret d, H') ∧ IsB (fewV v) d := by
  refine pcall_ret (fn := Tryz.f166) (Q := fun d _ => IsB (fewV v) d) rfl rfl rfl rfl ?_
  rw [of_fnT]
  repeat' (first
    | apply WP.seq
    | apply WP.reg
    | (apply WPS.mv; exact .inl rfl; exact rfl; exact rfl; decide; (conv => lhs; whnf); exact rfl; decide)
    | (apply WPS.mv; exact .inr rfl; exact rfl; exact rfl; decide; (conv => lhs; whnf); exact rfl; decide)
    | (apply WPS.cmp; exact rfl; exact rfl; exact rfl; exact rfl; exact rfl; decide; rintro (_ | _) hb)
    | (apply WPS.idx; exact rfl; exact rfl; exact rfl; exact rfl; exact rfl; exact rfl; exact rfl; decide; (first | omega | (simp only [decide_eq_true_eq, decide_eq_false_iff_not, IntKind.min, IntKind.max, IntKind.bits, IntKind.signed, List.length_map, in64] at *; omega)); (first | omega | (simp only [decide_eq_true_eq, decide_eq_false_iff_not, IntKind.min, IntKind.max, IntKind.bits, IntKind.signed, List.length_map, in64] at *; omega)); refine fun ch hch => ?_)
    | (apply WPS.idxK; exact rfl; exact rfl; exact rfl; exact rfl; exact rfl; exact rfl; exact rfl; exact rfl; decide; exact fun _ => rfl; (first | omega | (simp only [decide_eq_true_eq, decide_eq_false_iff_not, IntKind.min, IntKind.max, IntKind.bits, IntKind.signed, List.length_map, in64] at *; omega)); assumption)
    | (apply WPS.idxA; exact rfl; exact rfl; exact rfl; exact rfl; exact rfl; exact rfl; exact rfl; exact rfl; decide; exact fun _ => rfl; (first | omega | (simp only [decide_eq_true_eq, decide_eq_false_iff_not, IntKind.min, IntKind.max, IntKind.bits, IntKind.signed, List.length_map, in64] at *; omega)); (first | omega | (simp only [decide_eq_true_eq, decide_eq_false_iff_not, IntKind.min, IntKind.max, IntKind.bits, IntKind.signed, List.length_map, in64] at *; omega)); refine fun a ha => ?_)
    | (apply WPS.num; exact rfl; exact rfl; exact rfl; exact rfl; exact rfl; decide; exact ⟨by first | omega | (simp only [decide_eq_true_eq, decide_eq_false_iff_not, IntKind.min, IntKind.max, IntKind.bits, IntKind.signed, List.length_map, in64] at *; omega), by first | omega | (simp only [decide_eq_true_eq, decide_eq_false_iff_not, IntKind.min, IntKind.max, IntKind.bits, IntKind.signed, List.length_map, in64] at *; omega)⟩)
    | (apply WPS.val; exact rfl; exact rfl; exact rfl; exact rfl; (conv => lhs; whnf); exact rfl; decide)
    | (apply WPS.pure; exact rfl; exact rfl; exact rfl; exact rfl; exact rfl; decide)
    | (apply WPS.eff; exact rfl; exact rfl; exact rfl; exact rfl; exact rfl; exact rfl; decide)
    | (apply WPS.eff0; exact rfl; exact rfl; exact rfl; exact rfl; exact rfl; exact rfl)
    | (apply WPS.skip; exact rfl; exact rfl; decide)
    | (apply WPS.skip0; exact rfl; exact rfl)
    | (apply WPS.nil; exact rfl)
    | (apply WP.cond_t; exact rfl)
    | (apply WP.cond_f; exact rfl)
    | apply WP.skip
    | apply WP.exit
    | (apply WP.ret; refine ⟨.inr rfl, ?_⟩; refine ⟨_, rfl, ?_⟩)
    | apply WP.block)
  all_goals (first
    | exact ⟨false, rfl, fun h => by cases h⟩
    | exact ⟨true, rfl, fun _ => by simp only [decide_eq_true_eq, List.length_map] at *; exact ⟨by omega, by omega⟩⟩)

set_option maxHeartbeats 4000000 in
theorem f80 (k : Nat) (hk : 300 ≤ k) (l : List GAttr) (hl : l.length ≤ maxLen) : ∃ d H', pcall E0 (k + 1) 80 [.slc (l.map encA)] [] = some (.ret d, H') ∧ IsB (fewA l) d := by
  obtain ⟨k', rfl⟩ : ∃ k', k = k' + 1 := ⟨k - 1, by omega⟩
  refine pcall_ret (fn := Tryz.f80) (Q := fun d _ => IsB (fewA l) d) rfl rfl rfl rfl ?_
  rw [of_fnT]
  repeat' (first
    | apply WP.seq
    | apply WP.reg
    | (apply WPS.mv; exact .inl rfl; exact rfl; exact rfl; decide; (conv => lhs; whnf); exact rfl; decide)
    | (apply WPS.mv; exact .inr rfl; exact rfl; exact rfl; decide; (conv => lhs; whnf); exact rfl; decide)
    | (apply WPS.cmp; exact rfl; exact rfl; exact rfl; exact rfl; exact rfl; decide; rintro (_ | _) hb)
    | (apply WPS.idx; exact rfl; exact rfl; exact rfl; exact rfl; exact rfl; exact rfl; exact rfl; decide; (first | omega | (simp only [decide_eq_true_eq, decide_eq_false_iff_not, IntKind.min, IntKind.max, IntKind.bits, IntKind.signed, List.length_map, in64] at *; omega)); (first | omega | (simp only [decide_eq_true_eq, decide_eq_false_iff_not, IntKind.min, IntKind.max, IntKind.bits, IntKind.signed, List.length_map, in64] at *; omega)); refine fun ch hch => ?_)
    | (apply WPS.idxK; exact rfl; exact rfl; exact rfl; exact rfl; exact rfl; exact rfl; exact rfl; exact rfl; decide; exact fun _ => rfl; (first | omega | (simp only [decide_eq_true_eq, decide_eq_false_iff_not, IntKind.min, IntKind.max, IntKind.bits, IntKind.signed, List.length_map, in64] at *; omega)); assumption)
    | (apply WPS.idxA; exact rfl; exact rfl; exact rfl; exact rfl; exact rfl; exact rfl; exact rfl; exact rfl; decide; exact fun _ => rfl; (first | omega | (simp only [decide_eq_true_eq, decide_eq_false_iff_not, IntKind.min, IntKind.max, IntKind.bits, IntKind.signed, List.length_map, in64] at *; omega)); (first | omega | (simp only [decide_eq_true_eq, decide_eq_false_iff_not, IntKind.min, IntKind.max, IntKind.bits, IntKind.signed, List.length_map, in64] at *; omega)); refine fun a ha => ?_)
    | (apply WPS.num; exact rfl; exact rfl; exact rfl; exact rfl; exact rfl; decide; exact ⟨by first | omega | (simp only [decide_eq_true_eq, decide_eq_false_iff_not, IntKind.min, IntKind.max, IntKind.bits, IntKind.signed, List.length_map, in64] at *; omega), by first | omega | (simp only [decide_eq_true_eq, decide_eq_false_iff_not, IntKind.min, IntKind.max, IntKind.bits, IntKind.signed, List.length_map, in64] at *; omega)⟩)
    | (apply WPS.val; exact rfl; exact rfl; exact rfl; exact rfl; (conv => lhs; whnf); exact rfl; decide)
    | (apply WPS.pure; exact rfl; exact rfl; exact rfl; exact rfl; exact rfl; decide)
    | (apply WPS.eff; exact rfl; exact rfl; exact rfl; exact rfl; exact rfl; exact rfl; decide)
    | (apply WPS.eff0; exact rfl; exact rfl; exact rfl; exact rfl; exact rfl; exact rfl)
    | (apply WPS.skip; exact rfl; exact rfl; decide)
    | (apply WPS.skip0; exact rfl; exact rfl)
    | (apply WPS.nil; exact rfl)
    | (apply WP.cond_t; exact rfl)
    | (apply WP.cond_f; exact rfl)
    | apply WP.skip
    | apply WP.exit
    | (apply WP.ret; refine ⟨.inr rfl, ?_⟩; refine ⟨_, rfl, ?_⟩)
    | apply WP.block)
  all_goals try exact ⟨false, rfl, fun h => by cases h⟩
  have hb40 := hb
  simp only [decide_eq_false_iff_not, List.length_map] at hb40
  refine WP.loop l.length (fun m st => ∃ i : Nat, m = l.length - i ∧ i ≤ l.length ∧ (∀ (j : Nat) (a : GAttr), j < i → l[j]? = some a → a.name.length ≤ 100 ∧ fewV a.v) ∧ ∃ τ0, st = ⟨fnT 29 (updL τ0 [(0, .slc (l.map encA)), (3, .int .i64 i)]), []⟩)
    ⟨0, rfl, Nat.zero_le _, fun j a h => by omega, at_slots _ ⟨rfl, rfl, trivial⟩ rfl⟩ (by omega) ?_
  rintro m _ ⟨i, rfl, hi, hall, τ0, rfl⟩
  refine ⟨_, rfl, ?_⟩
  repeat' (first
    | apply WP.seq
    | apply WP.reg
    | (apply WPS.mv; exact .inl rfl; exact rfl; exact rfl; decide; (conv => lhs; whnf); exact rfl; decide)
    | (apply WPS.mv; exact .inr rfl; exact rfl; exact rfl; decide; (conv => lhs; whnf); exact rfl; decide)
    | (apply WPS.cmp; exact rfl; exact rfl; exact rfl; exact rfl; exact rfl; decide; rintro (_ | _) hb)
    | (apply WPS.idx; exact rfl; exact rfl; exact rfl; exact rfl; exact rfl; exact rfl; exact rfl; decide; (first | omega | (simp only [decide_eq_true_eq, decide_eq_false_iff_not, IntKind.min, IntKind.max, IntKind.bits, IntKind.signed, List.length_map, in64] at *; omega)); (first | omega | (simp only [decide_eq_true_eq, decide_eq_false_iff_not, IntKind.min, IntKind.max, IntKind.bits, IntKind.signed, List.length_map, in64] at *; omega)); refine fun ch hch => ?_)
    | (apply WPS.idxK; exact rfl; exact rfl; exact rfl; exact rfl; exact rfl; exact rfl; exact rfl; exact rfl; decide; exact fun _ => rfl; (first | omega | (simp only [decide_eq_true_eq, decide_eq_false_iff_not, IntKind.min, IntKind.max, IntKind.bits, IntKind.signed, List.length_map, in64] at *; omega)); assumption)
    | (apply WPS.idxA; exact rfl; exact rfl; exact rfl; exact rfl; exact rfl; exact rfl; exact rfl; exact rfl; decide; exact fun _ => rfl; (first | omega | (simp only [decide_eq_true_eq, decide_eq_false_iff_not, IntKind.min, IntKind.max, IntKind.bits, IntKind.signed, List.length_map, in64] at *; omega)); (first | omega | (simp only [decide_eq_true_eq, decide_eq_false_iff_not, IntKind.min, IntKind.max, IntKind.bits, IntKind.signed, List.length_map, in64] at *; omega)); refine fun a ha => ?_)
    | (apply WPS.num; exact rfl; exact rfl; exact rfl; exact rfl; exact rfl; decide; exact ⟨by first | omega | (simp only [decide_eq_true_eq, decide_eq_false_iff_not, IntKind.min, IntKind.max, IntKind.bits, IntKind.signed, List.length_map, in64] at *; omega), by first | omega | (simp only [decide_eq_true_eq, decide_eq_false_iff_not, IntKind.min, IntKind.max, IntKind.bits, IntKind.signed, List.length_map, in64] at *; omega)⟩)
    | (apply WPS.ask (g := 166); exact rfl; exact rfl; exact rfl; exact rfl; exact rfl; exact rfl; exact rfl; exact rfl; exact rfl; decide; exact (f166 _ _); exact fun d h => ⟨plain_isB h, by obtain ⟨b, rfl, _⟩ := h; rfl⟩; rintro _ ⟨(_ | _), rfl, hp⟩)
    | (apply WPS.val; exact rfl; exact rfl; exact rfl; exact rfl; (conv => lhs; whnf); exact rfl; decide)
    | (apply WPS.pure; exact rfl; exact rfl; exact rfl; exact rfl; exact rfl; decide)
    | (apply WPS.eff; exact rfl; exact rfl; exact rfl; exact rfl; exact rfl; exact rfl; decide)
    | (apply WPS.eff0; exact rfl; exact rfl; exact rfl; exact rfl; exact rfl; exact rfl)
    | (apply WPS.skip; exact rfl; exact rfl; decide)
    | (apply WPS.skip0; exact rfl; exact rfl)
    | (apply WPS.nil; exact rfl)
    | (apply WP.cond_t; exact rfl)
    | (apply WP.cond_f; exact rfl)
    | apply WP.skip
    | apply WP.exit
    | (apply WP.ret; refine ⟨.inr rfl, ?_⟩; refine ⟨_, rfl, ?_⟩)
    | apply WP.block)
  all_goals try exact ⟨false, rfl, fun h => by cases h⟩
  · refine ⟨true, rfl, fun _ => ⟨by omega, fun a ha => ?_⟩⟩
    obtain ⟨j, hj⟩ := List.mem_iff_getElem?.1 ha
    have hlt := (List.getElem?_eq_some_iff.1 hj).1
    simp only [decide_eq_false_iff_not, List.length_map] at *
    exact hall j a (by omega) hj
  · refine thenQ_n ⟨l.length - (i + 1), by first | omega | (simp only [decide_eq_true_eq, decide_eq_false_iff_not, IntKind.min, IntKind.max, IntKind.bits, IntKind.signed, List.length_map, in64] at *; omega), i + 1, rfl, by first | omega | (simp only [decide_eq_true_eq, decide_eq_false_iff_not, IntKind.min, IntKind.max, IntKind.bits, IntKind.signed, List.length_map, in64] at *; omega), fun j a' hj ha' => ?_, at_slots _ ⟨rfl, rfl, trivial⟩ rfl⟩
    rcases Nat.lt_or_ge j i with g | g
    · exact hall j a' g ha'
    · obtain rfl : j = i := by omega
      have e : l[(j : Int).toNat]? = l[j]? := rfl
      clear e
      simp only [decide_eq_false_iff_not, Int.toNat_natCast] at *
      simp_all
      omega

set_option maxHeartbeats 4000000 in
theorem f150 (k : Nat) (hk : 302 ≤ k) (r : GRow) (hr : r.attrs.length ≤ maxLen) : ∃ d H', pcall E0 (k + 1) 150 [.agg (encR r)] [] = some (.ret d, H') ∧ IsB (fewR r) d := by
  obtain ⟨k', rfl⟩ : ∃ k', k = k' + 1 := ⟨k - 1, by omega⟩
  refine pcall_ret (fn := Tryz.f150) (Q := fun d _ => IsB (fewR r) d) rfl rfl rfl rfl ?_
  rw [of_fnT]
  repeat' (first
    | apply WP.seq
    | apply WP.reg
    | (apply WPS.mv; exact .inl rfl; exact rfl; exact rfl; decide; (conv => lhs; whnf); exact rfl; decide)
    | (apply WPS.mv; exact .inr rfl; exact rfl; exact rfl; decide; (conv => lhs; whnf); exact rfl; decide)
    | (apply WPS.cmp; exact rfl; exact rfl; exact rfl; exact rfl; exact rfl; decide; rintro (_ | _) hb)
    | (apply WPS.idx; exact rfl; exact rfl; exact rfl; exact rfl; exact rfl; exact rfl; exact rfl; decide; (first | omega | (simp only [decide_eq_true_eq, decide_eq_false_iff_not, IntKind.min, IntKind.max, IntKind.bits, IntKind.signed, List.length_map, in64] at *; omega)); (first | omega | (simp only [decide_eq_true_eq, decide_eq_false_iff_not, IntKind.min, IntKind.max, IntKind.bits, IntKind.signed, List.length_map, in64] at *; omega)); refine fun ch hch => ?_)
    | (apply WPS.idxK; exact rfl; exact rfl; exact rfl; exact rfl; exact rfl; exact rfl; exact rfl; exact rfl; decide; exact fun _ => rfl; (first | omega | (simp only [decide_eq_true_eq, decide_eq_false_iff_not, IntKind.min, IntKind.max, IntKind.bits, IntKind.signed, List.length_map, in64] at *; omega)); assumption)
    | (apply WPS.idxA; exact rfl; exact rfl; exact rfl; exact rfl; exact rfl; exact rfl; exact rfl; exact rfl; decide; exact fun _ => rfl; (first | omega | (simp only [decide_eq_true_eq, decide_eq_false_iff_not, IntKind.min, IntKind.max, IntKind.bits, IntKind.signed, List.length_map, in64] at *; omega)); (first | omega | (simp only [decide_eq_true_eq, decide_eq_false_iff_not, IntKind.min, IntKind.max, IntKind.bits, IntKind.signed, List.length_map, in64] at *; omega)); refine fun a ha => ?_)
    | (apply WPS.num; exact rfl; exact rfl; exact rfl; exact rfl; exact rfl; decide; exact ⟨by first | omega | (simp only [decide_eq_true_eq, decide_eq_false_iff_not, IntKind.min, IntKind.max, IntKind.bits, IntKind.signed, List.length_map, in64] at *; omega), by first | omega | (simp only [decide_eq_true_eq, decide_eq_false_iff_not, IntKind.min, IntKind.max, IntKind.bits, IntKind.signed, List.length_map, in64] at *; omega)⟩)
    | (apply WPS.ask (g := 80); exact rfl; exact rfl; exact rfl; exact rfl; exact rfl; exact rfl; exact rfl; exact rfl; exact rfl; decide; exact (f80 _ (by omega) _ hr); exact fun d h => ⟨plain_isB h, by obtain ⟨b, rfl, _⟩ := h; rfl⟩; rintro _ ⟨(_ | _), rfl, hp⟩)
    | (apply WPS.val; exact rfl; exact rfl; exact rfl; exact rfl; (conv => lhs; whnf); exact rfl; decide)
    | (apply WPS.pure; exact rfl; exact rfl; exact rfl; exact rfl; exact rfl; decide)
    | (apply WPS.eff; exact rfl; exact rfl; exact rfl; exact rfl; exact rfl; exact rfl; decide)
    | (apply WPS.eff0; exact rfl; exact rfl; exact rfl; exact rfl; exact rfl; exact rfl)
    | (apply WPS.skip; exact rfl; exact rfl; decide)
    | (apply WPS.skip0; exact rfl; exact rfl)
    | (apply WPS.nil; exact rfl)
    | (apply WP.cond_t; exact rfl)
    | (apply WP.cond_f; exact rfl)
    | apply WP.skip
    | apply WP.exit
    | (apply WP.ret; refine ⟨.inr rfl, ?_⟩; refine ⟨_, rfl, ?_⟩)
    | apply WP.block)
  all_goals (first
    | exact ⟨false, rfl, fun h => by cases h⟩
    | exact ⟨true, rfl, fun _ => by simp only [decide_eq_true_eq] at *; exact ⟨by omega, by omega, hp trivial⟩⟩)

set_option maxHeartbeats 4000000 in
theorem f62 (k : Nat) (hk : 304 ≤ k) (l : List GRow) (hl : ∀ r ∈ l, r.ok) : ∃ d H', pcall E0 (k + 1) 62 [.slc (l.map encR)] [] = some (.ret d, H') ∧ IsB (l.length ≤ 70 ∧ ∀ r ∈ l, fewR r) d := by
  obtain ⟨k', rfl⟩ : ∃ k', k = k' + 1 := ⟨k - 1, by omega⟩
  refine pcall_ret (fn := Tryz.f62) (Q := fun d _ => IsB (l.length ≤ 70 ∧ ∀ r ∈ l, fewR r) d) rfl rfl rfl rfl ?_
  rw [of_fnT]
  repeat' (first
    | apply WP.seq
    | apply WP.reg
    | (apply WPS.mv; exact .inl rfl; exact rfl; exact rfl; decide; (conv => lhs; whnf); exact rfl; decide)
    | (apply WPS.mv; exact .inr rfl; exact rfl; exact rfl; decide; (conv => lhs; whnf); exact rfl; decide)
    | (apply WPS.cmp; exact rfl; exact rfl; exact rfl; exact rfl; exact rfl; decide; rintro (_ | _) hb)
    | (apply WPS.idx; exact rfl; exact rfl; exact rfl; exact rfl; exact rfl; exact rfl; exact rfl; decide; (first | omega | (simp only [decide_eq_true_eq, decide_eq_false_iff_not, IntKind.min, IntKind.max, IntKind.bits, IntKind.signed, List.length_map, in64] at *; omega)); (first | omega | (simp only [decide_eq_true_eq, decide_eq_false_iff_not, IntKind.min, IntKind.max, IntKind.bits, IntKind.signed, List.length_map, in64] at *; omega)); refine fun ch hch => ?_)
    | (apply WPS.idxK; exact rfl; exact rfl; exact rfl; exact rfl; exact rfl; exact rfl; exact rfl; exact rfl; decide; exact fun _ => rfl; (first | omega | (simp only [decide_eq_true_eq, decide_eq_false_iff_not, IntKind.min, IntKind.max, IntKind.bits, IntKind.signed, List.length_map, in64] at *; omega)); assumption)
    | (apply WPS.idxA; exact rfl; exact rfl; exact rfl; exact rfl; exact rfl; exact rfl; exact rfl; exact rfl; decide; exact fun _ => rfl; (first | omega | (simp only [decide_eq_true_eq, decide_eq_false_iff_not, IntKind.min, IntKind.max, IntKind.bits, IntKind.signed, List.length_map, in64] at *; omega)); (first | omega | (simp only [decide_eq_true_eq, decide_eq_false_iff_not, IntKind.min, IntKind.max, IntKind.bits, IntKind.signed, List.length_map, in64] at *; omega)); refine fun a ha => ?_)
    | (apply WPS.num; exact rfl; exact rfl; exact rfl; exact rfl; exact rfl; decide; exact ⟨by first | omega | (simp only [decide_eq_true_eq, decide_eq_false_iff_not, IntKind.min, IntKind.max, IntKind.bits, IntKind.signed, List.length_map, in64] at *; omega), by first | omega | (simp only [decide_eq_true_eq, decide_eq_false_iff_not, IntKind.min, IntKind.max, IntKind.bits, IntKind.signed, List.length_map, in64] at *; omega)⟩)
    | (apply WPS.val; exact rfl; exact rfl; exact rfl; exact rfl; (conv => lhs; whnf); exact rfl; decide)
    | (apply WPS.pure; exact rfl; exact rfl; exact rfl; exact rfl; exact rfl; decide)
    | (apply WPS.eff; exact rfl; exact rfl; exact rfl; exact rfl; exact rfl; exact rfl; decide)
    | (apply WPS.eff0; exact rfl; exact rfl; exact rfl; exact rfl; exact rfl; exact rfl)
    | (apply WPS.skip; exact rfl; exact rfl; decide)
    | (apply WPS.skip0; exact rfl; exact rfl)
    | (apply WPS.nil; exact rfl)
    | (apply WP.cond_t; exact rfl)
    | (apply WP.cond_f; exact rfl)
    | apply WP.skip
    | apply WP.exit
    | (apply WP.ret; refine ⟨.inr rfl, ?_⟩; refine ⟨_, rfl, ?_⟩)
    | apply WP.block)
  all_goals try exact ⟨false, rfl, fun h => by cases h⟩
  have hb40 := hb
  simp only [decide_eq_false_iff_not, List.length_map] at hb40
  refine WP.loop l.length (fun m st => ∃ i : Nat, m = l.length - i ∧ i ≤ l.length ∧ (∀ (j : Nat) (r : GRow), j < i → l[j]? = some r → fewR r) ∧ ∃ τ0, st = ⟨fnT 19 (updL τ0 [(0, .slc (l.map encR)), (3, .int .i64 i)]), []⟩)
    ⟨0, rfl, Nat.zero_le _, fun j a h => by omega, at_slots _ ⟨rfl, rfl, trivial⟩ rfl⟩ (by omega) ?_
  rintro m _ ⟨i, rfl, hi, hall, τ0, rfl⟩
  refine ⟨_, rfl, ?_⟩
  repeat' (first
    | apply WP.seq
    | apply WP.reg
    | (apply WPS.mv; exact .inl rfl; exact rfl; exact rfl; decide; (conv => lhs; whnf); exact rfl; decide)
    | (apply WPS.mv; exact .inr rfl; exact rfl; exact rfl; decide; (conv => lhs; whnf); exact rfl; decide)
    | (apply WPS.cmp; exact rfl; exact rfl; exact rfl; exact rfl; exact rfl; decide; rintro (_ | _) hb)
    | (apply WPS.idx; exact rfl; exact rfl; exact rfl; exact rfl; exact rfl; exact rfl; exact rfl; decide; (first | omega | (simp only [decide_eq_true_eq, decide_eq_false_iff_not, IntKind.min, IntKind.max, IntKind.bits, IntKind.signed, List.length_map, in64] at *; omega)); (first | omega | (simp only [decide_eq_true_eq, decide_eq_false_iff_not, IntKind.min, IntKind.max, IntKind.bits, IntKind.signed, List.length_map, in64] at *; omega)); refine fun ch hch => ?_)
    | (apply WPS.idxK; exact rfl; exact rfl; exact rfl; exact rfl; exact rfl; exact rfl; exact rfl; exact rfl; decide; exact fun _ => rfl; (first | omega | (simp only [decide_eq_true_eq, decide_eq_false_iff_not, IntKind.min, IntKind.max, IntKind.bits, IntKind.signed, List.length_map, in64] at *; omega)); assumption)
    | (apply WPS.idxA; exact rfl; exact rfl; exact rfl; exact rfl; exact rfl; exact rfl; exact rfl; exact rfl; decide; exact fun _ => rfl; (first | omega | (simp only [decide_eq_true_eq, decide_eq_false_iff_not, IntKind.min, IntKind.max, IntKind.bits, IntKind.signed, List.length_map, in64] at *; omega)); (first | omega | (simp only [decide_eq_true_eq, decide_eq_false_iff_not, IntKind.min, IntKind.max, IntKind.bits, IntKind.signed, List.length_map, in64] at *; omega)); refine fun a ha => ?_)
    | (apply WPS.num; exact rfl; exact rfl; exact rfl; exact rfl; exact rfl; decide; exact ⟨by first | omega | (simp only [decide_eq_true_eq, decide_eq_false_iff_not, IntKind.min, IntKind.max, IntKind.bits, IntKind.signed, List.length_map, in64] at *; omega), by first | omega | (simp only [decide_eq_true_eq, decide_eq_false_iff_not, IntKind.min, IntKind.max, IntKind.bits, IntKind.signed, List.length_map, in64] at *; omega)⟩)
    | (apply WPS.ask (g := 150); exact rfl; exact rfl; exact rfl; exact rfl; exact rfl; exact rfl; exact rfl; exact rfl; exact rfl; decide; exact (f150 _ (by omega) _ (hl _ (List.mem_of_getElem? ha)).2.2.1); exact fun d h => ⟨plain_isB h, by obtain ⟨b, rfl, _⟩ := h; rfl⟩; rintro _ ⟨(_ | _), rfl, hp⟩)
    | (apply WPS.val; exact rfl; exact rfl; exact rfl; exact rfl; (conv => lhs; whnf); exact rfl; decide)
    | (apply WPS.pure; exact rfl; exact rfl; exact rfl; exact rfl; exact rfl; decide)
    | (apply WPS.eff; exact rfl; exact rfl; exact rfl; exact rfl; exact rfl; exact rfl; decide)
    | (apply WPS.eff0; exact rfl; exact rfl; exact rfl; exact rfl; exact rfl; exact rfl)
    | (apply WPS.skip; exact rfl; exact rfl; decide)
    | (apply WPS.skip0; exact rfl; exact rfl)
    | (apply WPS.nil; exact rfl)
    | (apply WP.cond_t; exact rfl)
    | (apply WP.cond_f; exact rfl)
    | apply WP.skip
    | apply WP.exit
    | (apply WP.ret; refine ⟨.inr rfl, ?_⟩; refine ⟨_, rfl, ?_⟩)
    | apply WP.block)
  all_goals try exact ⟨false, rfl, fun h => by cases h⟩
  · refine ⟨true, rfl, fun _ => ⟨by omega, fun a ha => ?_⟩⟩
    obtain ⟨j, hj⟩ := List.mem_iff_getElem?.1 ha
    have hlt := (List.getElem?_eq_some_iff.1 hj).1
    simp only [decide_eq_false_iff_not, List.length_map] at *
    exact hall j a (by omega) hj
  · refine thenQ_n ⟨l.length - (i + 1), by first | omega | (simp only [decide_eq_true_eq, decide_eq_false_iff_not, IntKind.min, IntKind.max, IntKind.bits, IntKind.signed, List.length_map, in64] at *; omega), i + 1, rfl, by first | omega | (simp only [decide_eq_true_eq, decide_eq_false_iff_not, IntKind.min, IntKind.max, IntKind.bits, IntKind.signed, List.length_map, in64] at *; omega), fun j a' hj ha' => ?_, at_slots _ ⟨rfl, rfl, trivial⟩ rfl⟩
    rcases Nat.lt_or_ge j i with g | g
    · exact hall j a' g ha'
    · obtain rfl : j = i := by omega
      simp only [decide_eq_false_iff_not, Int.toNat_natCast] at *
      simp_all

end Go.Cv
