/- A row checked; rows in order. -/
import Derived.Test.YtlfkhemmgkdjjaaGreatDoorCvFn4
set_option maxRecDepth 100000
set_option linter.unusedVariables false
set_option linter.unusedSimpArgs false
namespace Go.Cv
open Go.Proofs
attribute [local irreducible] WP WPS WPO

set_option maxHeartbeats 8000000 in
theorem f63 (k : Nat) (hk : 310 ≤ k) (r : GRow) (hr : fewR r) : ∃ d H', pcall E0 (k + 1) 63 [.agg (encR r)] [] = some (.ret d, H') ∧ IsN d := by
  obtain ⟨k', rfl⟩ : ∃ k', k = k' + 1 := ⟨k - 1, by omega⟩
  refine pcall_ret (fn := Tryz.f63) (Q := fun d _ => IsN d) rfl rfl rfl rfl ?_
  rw [of_fnT]
  obtain ⟨hr1, hr2, hr3, hr4⟩ := hr
  repeat' (first
    | apply WP.seq
    | apply WP.reg
    | (apply WPS.mv; exact .inl rfl; exact rfl; exact rfl; decide; (conv => lhs; whnf); exact rfl; decide)
    | (apply WPS.mv; exact .inr rfl; exact rfl; exact rfl; decide; (conv => lhs; whnf); exact rfl; decide)
    | (apply WPS.cmp; exact rfl; exact rfl; exact rfl; exact rfl; exact rfl; decide; rintro (_ | _) hb)
    | (apply WPS.idx; exact rfl; exact rfl; exact rfl; exact rfl; exact rfl; exact rfl; exact rfl; decide; (first | omega | (simp only [decide_eq_true_eq, decide_eq_false_iff_not, IntKind.min, IntKind.max, IntKind.bits, IntKind.signed, List.length_map, in64] at *; omega)); (first | omega | (simp only [decide_eq_true_eq, decide_eq_false_iff_not, IntKind.min, IntKind.max, IntKind.bits, IntKind.signed, List.length_map, in64] at *; omega)); refine fun ch hch => ?_)
    | (apply WPS.idxK; exact rfl; exact rfl; exact rfl; exact rfl; exact rfl; exact rfl; exact rfl; exact rfl; decide; exact fun _ => rfl; (first | omega | (simp only [decide_eq_true_eq, decide_eq_false_iff_not, IntKind.min, IntKind.max, IntKind.bits, IntKind.signed, List.length_map, in64] at *; omega)); assumption)
    | (apply WPS.idxA; exact rfl; exact rfl; exact rfl; exact rfl; exact rfl; exact rfl; exact rfl; exact rfl; decide; exact fun _ => rfl; (first | omega | (simp only [decide_eq_true_eq, decide_eq_false_iff_not, IntKind.min, IntKind.max, IntKind.bits, IntKind.signed, List.length_map, in64] at *; omega)); (first | omega | (simp only [decide_eq_true_eq, decide_eq_false_iff_not, IntKind.min, IntKind.max, IntKind.bits, IntKind.signed, List.length_map, in64] at *; omega)); refine fun a ha => ?_)
    | (apply WPS.num; exact rfl; exact rfl; exact rfl; exact rfl; exact rfl; decide; exact ⟨by first | omega | (simp only [decide_eq_true_eq, decide_eq_false_iff_not, IntKind.min, IntKind.max, IntKind.bits, IntKind.signed, List.length_map, in64] at *; omega), by first | omega | (simp only [decide_eq_true_eq, decide_eq_false_iff_not, IntKind.min, IntKind.max, IntKind.bits, IntKind.signed, List.length_map, in64] at *; omega)⟩)
    | (apply WPS.ask (g := 69); exact rfl; exact rfl; exact rfl; exact rfl; exact rfl; exact rfl; exact rfl; exact rfl; exact rfl; decide; exact (f69 _ (by omega) _); exact fun d h => ⟨plain_isB h, by obtain ⟨b, rfl, _⟩ := h; rfl⟩; rintro _ ⟨(_ | _), rfl, hp⟩)
    | (apply WPS.ask (g := 151); exact rfl; exact rfl; exact rfl; exact rfl; exact rfl; exact rfl; exact rfl; exact rfl; exact rfl; decide; exact (f151 _ (by omega) r.st hr2); exact fun d h => ⟨plain_isN h, by obtain ⟨b, rfl, _⟩ := h; rfl⟩; rintro _ ⟨n, rfl, hn⟩)
    | (apply WPS.val; exact rfl; exact rfl; exact rfl; exact rfl; (conv => lhs; whnf); exact rfl; decide)
    | (apply WPS.pure; exact rfl; exact rfl; exact rfl; exact rfl; exact rfl; decide)
    | (apply WPS.eff; exact rfl; exact rfl; exact rfl; exact rfl; exact rfl; exact rfl; decide)
    | (apply WPS.eff0; exact rfl; exact rfl; exact rfl; exact rfl; exact rfl; exact rfl)
    | (apply WPS.skip; exact rfl; exact rfl; decide)
    | (apply WPS.skip0; exact rfl; exact rfl)
    | (apply WPS.nil; exact rfl)
    | (apply WP.cond_t; exact rfl)
    | (apply WP.cond_f; exact rfl)
    | apply WP.skip
    | apply WP.exit
    | (apply WP.ret; refine ⟨.inr rfl, ?_⟩; refine ⟨_, rfl, ?_⟩)
    | apply WP.block)
  all_goals (first
    | exact ⟨_, rfl, by decide, by decide⟩
    | exact ⟨_, rfl, by assumption⟩
    | skip)
  refine WP.loop r.attrs.length (fun m st => ∃ i : Nat, m = r.attrs.length - i ∧ i ≤ r.attrs.length ∧ ∃ τ0, st = ⟨fnT 65 (updL τ0 [(1, .ptr 0 1 0 0), (4, .int .i64 i)]), [⟨[encR r], 0⟩]⟩)
    ⟨0, rfl, Nat.zero_le _, at_slots _ ⟨rfl, rfl, trivial⟩ rfl⟩ (by omega) ?_
  rintro m _ ⟨i, rfl, hi, τ0, rfl⟩
  refine ⟨_, rfl, ?_⟩
  repeat' (first
    | apply WP.seq
    | apply WP.reg
    | (apply WPS.mv; exact .inl rfl; exact rfl; exact rfl; decide; (conv => lhs; whnf); exact rfl; decide)
    | (apply WPS.mv; exact .inr rfl; exact rfl; exact rfl; decide; (conv => lhs; whnf); exact rfl; decide)
    | (apply WPS.cmp; exact rfl; exact rfl; exact rfl; exact rfl; exact rfl; decide; rintro (_ | _) hb)
    | (apply WPS.idx; exact rfl; exact rfl; exact rfl; exact rfl; exact rfl; exact rfl; exact rfl; decide; (first | omega | (simp only [decide_eq_true_eq, decide_eq_false_iff_not, IntKind.min, IntKind.max, IntKind.bits, IntKind.signed, List.length_map, in64] at *; omega)); (first | omega | (simp only [decide_eq_true_eq, decide_eq_false_iff_not, IntKind.min, IntKind.max, IntKind.bits, IntKind.signed, List.length_map, in64] at *; omega)); refine fun ch hch => ?_)
    | (apply WPS.idxK; exact rfl; exact rfl; exact rfl; exact rfl; exact rfl; exact rfl; exact rfl; exact rfl; decide; exact fun _ => rfl; (first | omega | (simp only [decide_eq_true_eq, decide_eq_false_iff_not, IntKind.min, IntKind.max, IntKind.bits, IntKind.signed, List.length_map, in64] at *; omega)); assumption)
    | (apply WPS.idxA; exact rfl; exact rfl; exact rfl; exact rfl; exact rfl; exact rfl; exact rfl; exact rfl; decide; exact fun _ => rfl; (first | omega | (simp only [decide_eq_true_eq, decide_eq_false_iff_not, IntKind.min, IntKind.max, IntKind.bits, IntKind.signed, List.length_map, in64] at *; omega)); (first | omega | (simp only [decide_eq_true_eq, decide_eq_false_iff_not, IntKind.min, IntKind.max, IntKind.bits, IntKind.signed, List.length_map, in64] at *; omega)); refine fun a ha => ?_)
    | (apply WPS.num; exact rfl; exact rfl; exact rfl; exact rfl; exact rfl; decide; exact ⟨by first | omega | (simp only [decide_eq_true_eq, decide_eq_false_iff_not, IntKind.min, IntKind.max, IntKind.bits, IntKind.signed, List.length_map, in64] at *; omega), by first | omega | (simp only [decide_eq_true_eq, decide_eq_false_iff_not, IntKind.min, IntKind.max, IntKind.bits, IntKind.signed, List.length_map, in64] at *; omega)⟩)
    | (apply WPS.ask (g := 69); exact rfl; exact rfl; exact rfl; exact rfl; exact rfl; exact rfl; exact rfl; exact rfl; exact rfl; decide; exact (f69 _ (by omega) _); exact fun d h => ⟨plain_isB h, by obtain ⟨b, rfl, _⟩ := h; rfl⟩; rintro _ ⟨(_ | _), rfl, hp⟩)
    | (apply WPS.ask (g := 152); exact rfl; exact rfl; exact rfl; exact rfl; exact rfl; exact rfl; exact rfl; exact rfl; exact rfl; decide; exact (f152 _ (by omega) a.v); exact fun d h => ⟨plain_isN h, by obtain ⟨b, rfl, _⟩ := h; rfl⟩; rintro _ ⟨n, rfl, hn⟩)
    | (apply WPS.val; exact rfl; exact rfl; exact rfl; exact rfl; (conv => lhs; whnf); exact rfl; decide)
    | (apply WPS.pure; exact rfl; exact rfl; exact rfl; exact rfl; exact rfl; decide)
    | (apply WPS.eff; exact rfl; exact rfl; exact rfl; exact rfl; exact rfl; exact rfl; decide)
    | (apply WPS.eff0; exact rfl; exact rfl; exact rfl; exact rfl; exact rfl; exact rfl)
    | (apply WPS.skip; exact rfl; exact rfl; decide)
    | (apply WPS.skip0; exact rfl; exact rfl)
    | (apply WPS.nil; exact rfl)
    | (apply WP.cond_t; exact rfl)
    | (apply WP.cond_f; exact rfl)
    | apply WP.skip
    | apply WP.exit
    | (apply WP.ret; refine ⟨.inr rfl, ?_⟩; refine ⟨_, rfl, ?_⟩)
    | apply WP.block)
  all_goals (first
    | exact ⟨_, rfl, by decide, by decide⟩
    | exact ⟨_, rfl, by assumption⟩
    | exact thenQ_n ⟨r.attrs.length - (i + 1), by first | omega | (simp only [decide_eq_true_eq, decide_eq_false_iff_not, IntKind.min, IntKind.max, IntKind.bits, IntKind.signed, List.length_map, in64] at *; omega), i + 1, rfl, by first | omega | (simp only [decide_eq_true_eq, decide_eq_false_iff_not, IntKind.min, IntKind.max, IntKind.bits, IntKind.signed, List.length_map, in64] at *; omega), at_slots _ ⟨rfl, rfl, trivial⟩ rfl⟩)

set_option maxHeartbeats 8000000 in
theorem f16 (k : Nat) (hk : 312 ≤ k) (l : List GRow) (hl : ∀ r ∈ l, r.ok) : ∃ d H', pcall E0 (k + 1) 16 [.slc (l.map encR)] [] = some (.ret d, H') ∧ IsB (l.length ≤ 70 ∧ ∀ r ∈ l, fewR r) d := by
  obtain ⟨k', rfl⟩ : ∃ k', k = k' + 1 := ⟨k - 1, by omega⟩
  refine pcall_ret (fn := Tryz.f16) (Q := fun d _ => IsB (l.length ≤ 70 ∧ ∀ r ∈ l, fewR r) d) rfl rfl rfl rfl ?_
  rw [of_fnT]
  repeat' (first
    | apply WP.seq
    | apply WP.reg
    | (apply WPS.mv; exact .inl rfl; exact rfl; exact rfl; decide; (conv => lhs; whnf); exact rfl; decide)
    | (apply WPS.mv; exact .inr rfl; exact rfl; exact rfl; decide; (conv => lhs; whnf); exact rfl; decide)
    | (apply WPS.cmp; exact rfl; exact rfl; exact rfl; exact rfl; exact rfl; decide; rintro (_ | _) hb)
    | (apply WPS.idx; exact rfl; exact rfl; exact rfl; exact rfl; exact rfl; exact rfl; exact rfl; decide; (first | omega | (simp only [decide_eq_true_eq, decide_eq_false_iff_not, IntKind.min, IntKind.max, IntKind.bits, IntKind.signed, List.length_map, in64] at *; omega)); (first | omega | (simp only [decide_eq_true_eq, decide_eq_false_iff_not, IntKind.min, IntKind.max, IntKind.bits, IntKind.signed, List.length_map, in64] at *; omega)); refine fun ch hch => ?_)
    | (apply WPS.idxK; exact rfl; exact rfl; exact rfl; exact rfl; exact rfl; exact rfl; exact rfl; exact rfl; decide; exact fun _ => rfl; (first | omega | (simp only [decide_eq_true_eq, decide_eq_false_iff_not, IntKind.min, IntKind.max, IntKind.bits, IntKind.signed, List.length_map, in64] at *; omega)); assumption)
    | (apply WPS.idxA; exact rfl; exact rfl; exact rfl; exact rfl; exact rfl; exact rfl; exact rfl; exact rfl; decide; exact fun _ => rfl; (first | omega | (simp only [decide_eq_true_eq, decide_eq_false_iff_not, IntKind.min, IntKind.max, IntKind.bits, IntKind.signed, List.length_map, in64] at *; omega)); (first | omega | (simp only [decide_eq_true_eq, decide_eq_false_iff_not, IntKind.min, IntKind.max, IntKind.bits, IntKind.signed, List.length_map, in64] at *; omega)); refine fun a ha => ?_)
    | (apply WPS.num; exact rfl; exact rfl; exact rfl; exact rfl; exact rfl; decide; exact ⟨by first | omega | (simp only [decide_eq_true_eq, decide_eq_false_iff_not, IntKind.min, IntKind.max, IntKind.bits, IntKind.signed, List.length_map, in64] at *; omega), by first | omega | (simp only [decide_eq_true_eq, decide_eq_false_iff_not, IntKind.min, IntKind.max, IntKind.bits, IntKind.signed, List.length_map, in64] at *; omega)⟩)
    | (apply WPS.ask (g := 62); exact rfl; exact rfl; exact rfl; exact rfl; exact rfl; exact rfl; exact rfl; exact rfl; exact rfl; decide; exact (f62 _ (by omega) l hl); exact fun d h => ⟨plain_isB h, by obtain ⟨b, rfl, _⟩ := h; rfl⟩; rintro _ ⟨(_ | _), rfl, hp⟩)
    | (apply WPS.val; exact rfl; exact rfl; exact rfl; exact rfl; (conv => lhs; whnf); exact rfl; decide)
    | (apply WPS.pure; exact rfl; exact rfl; exact rfl; exact rfl; exact rfl; decide)
    | (apply WPS.eff; exact rfl; exact rfl; exact rfl; exact rfl; exact rfl; exact rfl; decide)
    | (apply WPS.eff0; exact rfl; exact rfl; exact rfl; exact rfl; exact rfl; exact rfl)
    | (apply WPS.skip; exact rfl; exact rfl; decide)
    | (apply WPS.skip0; exact rfl; exact rfl)
    | (apply WPS.nil; exact rfl)
    | (apply WP.cond_t; exact rfl)
    | (apply WP.cond_f; exact rfl)
    | apply WP.skip
    | apply WP.exit
    | (apply WP.ret; refine ⟨.inr rfl, ?_⟩; refine ⟨_, rfl, ?_⟩)
    | apply WP.block)
  all_goals try exact ⟨false, rfl, fun h => by cases h⟩
  have hall := hp rfl
  have hfew : ∀ (j : Nat) (a : GRow), l[j]? = some a → fewR a := fun j a h => hall.2 a (List.mem_of_getElem? h)
  refine WP.loop l.length (fun m st => ∃ i : Nat, m = l.length - i ∧ i ≤ l.length ∧ ∃ τ0, st = ⟨fnT 43 (updL τ0 [(0, .slc (l.map encR)), (3, .int .i64 i)]), []⟩)
    ⟨0, rfl, Nat.zero_le _, at_slots _ ⟨rfl, rfl, trivial⟩ rfl⟩ (by omega) ?_
  rintro m _ ⟨i, rfl, hi, τ0, rfl⟩
  refine ⟨_, rfl, ?_⟩
  repeat' (first
    | apply WP.seq
    | apply WP.reg
    | (apply WPS.mv; exact .inl rfl; exact rfl; exact rfl; decide; (conv => lhs; whnf); exact rfl; decide)
    | (apply WPS.mv; exact .inr rfl; exact rfl; exact rfl; decide; (conv => lhs; whnf); exact rfl; decide)
    | (apply WPS.cmp; exact rfl; exact rfl; exact rfl; exact rfl; exact rfl; decide; rintro (_ | _) hb)
    | (apply WPS.idx; exact rfl; exact rfl; exact rfl; exact rfl; exact rfl; exact rfl; exact rfl; decide; (first | omega | (simp only [decide_eq_true_eq, decide_eq_false_iff_not, IntKind.min, IntKind.max, IntKind.bits, IntKind.signed, List.length_map, in64] at *; omega)); (first | omega | (simp only [decide_eq_true_eq, decide_eq_false_iff_not, IntKind.min, IntKind.max, IntKind.bits, IntKind.signed, List.length_map, in64] at *; omega)); refine fun ch hch => ?_)
    | (apply WPS.idxK; exact rfl; exact rfl; exact rfl; exact rfl; exact rfl; exact rfl; exact rfl; exact rfl; decide; exact fun _ => rfl; (first | omega | (simp only [decide_eq_true_eq, decide_eq_false_iff_not, IntKind.min, IntKind.max, IntKind.bits, IntKind.signed, List.length_map, in64] at *; omega)); assumption)
    | (apply WPS.idxA; exact rfl; exact rfl; exact rfl; exact rfl; exact rfl; exact rfl; exact rfl; exact rfl; decide; exact fun _ => rfl; (first | omega | (simp only [decide_eq_true_eq, decide_eq_false_iff_not, IntKind.min, IntKind.max, IntKind.bits, IntKind.signed, List.length_map, in64] at *; omega)); (first | omega | (simp only [decide_eq_true_eq, decide_eq_false_iff_not, IntKind.min, IntKind.max, IntKind.bits, IntKind.signed, List.length_map, in64] at *; omega)); refine fun a ha => ?_)
    | (apply WPS.num; exact rfl; exact rfl; exact rfl; exact rfl; exact rfl; decide; exact ⟨by first | omega | (simp only [decide_eq_true_eq, decide_eq_false_iff_not, IntKind.min, IntKind.max, IntKind.bits, IntKind.signed, List.length_map, in64] at *; omega), by first | omega | (simp only [decide_eq_true_eq, decide_eq_false_iff_not, IntKind.min, IntKind.max, IntKind.bits, IntKind.signed, List.length_map, in64] at *; omega)⟩)
    | (apply WPS.askL (g := 64); exact rfl; exact rfl; exact rfl; exact rfl; exact rfl; exact rfl; exact rfl; decide; exact c64 _ (by omega) _ (hfew _ _ (by assumption)).2.2.1 _ _)
    | (apply WPS.ask (g := 63); exact rfl; exact rfl; exact rfl; exact rfl; exact rfl; exact rfl; exact rfl; exact rfl; exact rfl; decide; exact (f63 _ (by omega) _ (hfew _ _ (by assumption))); exact fun d h => ⟨plain_isN h, by obtain ⟨b, rfl, _⟩ := h; rfl⟩; rintro _ ⟨n, rfl, hn⟩)
    | (apply WPS.val; exact rfl; exact rfl; exact rfl; exact rfl; (conv => lhs; whnf); exact rfl; decide)
    | (apply WPS.pure; exact rfl; exact rfl; exact rfl; exact rfl; exact rfl; decide)
    | (apply WPS.eff; exact rfl; exact rfl; exact rfl; exact rfl; exact rfl; exact rfl; decide)
    | (apply WPS.eff0; exact rfl; exact rfl; exact rfl; exact rfl; exact rfl; exact rfl)
    | (apply WPS.skip; exact rfl; exact rfl; decide)
    | (apply WPS.skip0; exact rfl; exact rfl)
    | (apply WPS.nil; exact rfl)
    | (apply WP.cond_t; exact rfl)
    | (apply WP.cond_f; exact rfl)
    | apply WP.skip
    | apply WP.exit
    | (apply WP.ret; refine ⟨.inr rfl, ?_⟩; refine ⟨_, rfl, ?_⟩)
    | apply WP.block)
  all_goals (first
    | exact ⟨false, rfl, fun h => by cases h⟩
    | exact ⟨true, rfl, fun _ => hall⟩
    | exact thenQ_n ⟨l.length - (i + 1), by first | omega | (simp only [decide_eq_true_eq, decide_eq_false_iff_not, IntKind.min, IntKind.max, IntKind.bits, IntKind.signed, List.length_map, in64] at *; omega), i + 1, rfl, by first | omega | (simp only [decide_eq_true_eq, decide_eq_false_iff_not, IntKind.min, IntKind.max, IntKind.bits, IntKind.signed, List.length_map, in64] at *; omega), at_slots _ ⟨rfl, rfl, trivial⟩ rfl⟩)
end Go.Cv
