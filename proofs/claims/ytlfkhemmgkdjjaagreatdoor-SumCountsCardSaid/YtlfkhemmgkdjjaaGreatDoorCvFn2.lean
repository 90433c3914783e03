/- The document's functions over rows. -/
import Derived.Test.YtlfkhemmgkdjjaaGreatDoorCvFn1
set_option maxRecDepth 100000
set_option linter.unusedVariables false
set_option linter.unusedSimpArgs false
namespace Go.Cv
open Go.Proofs
attribute [local irreducible] WP WPS WPO

theorem f41 (k : Nat) (v : GValue) : pcall E0 (k + 1) 41 [.agg (encV v)] [] = some (.ret (.agg (encV v)), [⟨[encV v], 0⟩, ⟨[encV v], 0⟩]) := by kernel_rfl
theorem f153 (k : Nat) (s : GStamp) : pcall E0 (k + 1) 153 [.agg (encSt s)] [] = some (.ret (.agg (encSt s)), [⟨[encSt s], 0⟩, ⟨[encSt s], 0⟩]) := by kernel_rfl

set_option maxHeartbeats 4000000 in
theorem f41' (k : Nat) (v : GValue) : ∃ d H', pcall E0 (k + 1) 41 [.agg (encV v)] [] = some (.ret d, H') ∧ d = .agg (encV v) := by
  refine pcall_ret (fn := Tryz.f41) (Q := fun d _ => d = .agg (encV v)) rfl rfl rfl rfl ?_
  rw [of_fnT]
  repeat' (first
    | apply WP.seq
    | apply WP.reg
    | (apply WPS.mv; exact .inl rfl; exact rfl; exact rfl; decide; (conv => lhs; whnf); exact rfl; decide)
    | (apply WPS.mv; exact .inr rfl; exact rfl; exact rfl; decide; (conv => lhs; whnf); exact rfl; decide)
    | (apply WPS.cmp; exact rfl; exact rfl; exact rfl; exact rfl; exact rfl; decide; rintro (_ | _) hb)
    | (apply WPS.idx; exact rfl; exact rfl; exact rfl; exact rfl; exact rfl; exact rfl; exact rfl; decide; (first | omega | (simp only [decide_eq_true_eq, decide_eq_false_iff_not, IntKind.min, IntKind.max, IntKind.bits, IntKind.signed, List.length_map, in64] at *; omega)); (first | omega | (simp only [decide_eq_true_eq, decide_eq_false_iff_not, IntKind.min, IntKind.max, IntKind.bits, IntKind.signed, List.length_map, in64] at *; omega)); refine fun ch hch => ?_)
    | (apply WPS.idxK; exact rfl; exact rfl; exact rfl; exact rfl; exact rfl; exact rfl; exact rfl; exact rfl; decide; exact fun _ => rfl; (first | omega | (simp only [decide_eq_true_eq, decide_eq_false_iff_not, IntKind.min, IntKind.max, IntKind.bits, IntKind.signed, List.length_map, in64] at *; omega)); assumption)
    | (apply WPS.idxA; exact rfl; exact rfl; exact rfl; exact rfl; exact rfl; exact rfl; exact rfl; exact rfl; decide; exact fun _ => rfl; (first | omega | (simp only [decide_eq_true_eq, decide_eq_false_iff_not, IntKind.min, IntKind.max, IntKind.bits, IntKind.signed, List.length_map, in64] at *; omega)); (first | omega | (simp only [decide_eq_true_eq, decide_eq_false_iff_not, IntKind.min, IntKind.max, IntKind.bits, IntKind.signed, List.length_map, in64] at *; omega)); refine fun a ha => ?_)
    | (apply WPS.num; exact rfl; exact rfl; exact rfl; exact rfl; exact rfl; decide; exact ⟨by first | omega | (simp only [decide_eq_true_eq, decide_eq_false_iff_not, IntKind.min, IntKind.max, IntKind.bits, IntKind.signed, List.length_map, in64] at *; omega), by first | omega | (simp only [decide_eq_true_eq, decide_eq_false_iff_not, IntKind.min, IntKind.max, IntKind.bits, IntKind.signed, List.length_map, in64] at *; omega)⟩)
    | (apply WPS.val; exact rfl; exact rfl; exact rfl; exact rfl; (conv => lhs; whnf); exact rfl; decide)
    | (apply WPS.pure; exact rfl; exact rfl; exact rfl; exact rfl; exact rfl; decide)
    | (apply WPS.eff; exact rfl; exact rfl; exact rfl; exact rfl; exact rfl; exact rfl; decide)
    | (apply WPS.eff0; exact rfl; exact rfl; exact rfl; exact rfl; exact rfl; exact rfl)
    | (apply WPS.skip; exact rfl; exact rfl; decide)
    | (apply WPS.skip0; exact rfl; exact rfl)
    | (apply WPS.nil; exact rfl)
    | (apply WP.cond_t; exact rfl)
    | (apply WP.cond_f; exact rfl)
    | apply WP.skip
    | apply WP.exit
    | (apply WP.ret; refine ⟨.inr rfl, ?_⟩; refine ⟨_, rfl, ?_⟩)
    | apply WP.block)
  all_goals rfl

theorem c41 (k : Nat) (v : GValue) (H : Heap) (m : Nat) : callPure (pcall E0 (k + 1)) true 41 [.agg (encV v)] H m = some (.agg (encV v), []) := by kernel_rfl
theorem c153 (k : Nat) (s : GStamp) (H : Heap) (m : Nat) : callPure (pcall E0 (k + 1)) true 153 [.agg (encSt s)] H m = some (.agg (encSt s), []) := by kernel_rfl

/-- What a loop has appended so far. -/
def outD {α : Type} (enc : α → List D) (l : List α) : D := match l with | [] => .emp | l => .arr 0 l.length
def outH {α : Type} (enc : α → List D) (l : List α) : Heap := match l with | [] => [] | l => [⟨l.map enc, 0⟩]

theorem out_view {α : Type} (enc : α → List D) (hf : ∀ a, idFreeL (enc a) = true) (l : List α) : view (outH enc l) (outD enc l) = some (.slc (l.map enc)) := by
  cases l with
  | nil => rfl
  | cons a l =>
    have : rowFree ((a :: l).map enc) = true := List.all_eq_true.2 fun x hx => by obtain ⟨b, _, rfl⟩ := List.mem_map.1 hx; exact hf b
    show view1 [⟨(a :: l).map enc, 0⟩] (.arr 0 (a :: l).length) = _
    simp only [view1, List.getElem?_cons_zero, this, List.length_map, beq_self_eq_true, Bool.and_self, if_true]

set_option maxHeartbeats 4000000 in
theorem f48 (k : Nat) (hk : 100 ≤ k) (l : List GAttr) (hl : l.length ≤ 40) : ∃ d H', pcall E0 (k + 1) 48 [.slc (l.map encA)] [] = some (.ret d, H') ∧ d = outD encA l ∧ H' = outH encA l := by
  obtain ⟨k', rfl⟩ : ∃ k', k = k' + 1 := ⟨k - 1, by omega⟩
  refine pcall_ret (fn := Tryz.f48) (Q := fun d H' => d = outD encA l ∧ H' = outH encA l) rfl rfl rfl rfl ?_
  rw [of_fnT]
  repeat' (first
    | apply WP.seq
    | apply WP.reg
    | (apply WPS.mv; exact .inl rfl; exact rfl; exact rfl; decide; (conv => lhs; whnf); exact rfl; decide)
    | (apply WPS.mv; exact .inr rfl; exact rfl; exact rfl; decide; (conv => lhs; whnf); exact rfl; decide)
    | (apply WPS.cmp; exact rfl; exact rfl; exact rfl; exact rfl; exact rfl; decide; rintro (_ | _) hb)
    | (apply WPS.idx; exact rfl; exact rfl; exact rfl; exact rfl; exact rfl; exact rfl; exact rfl; decide; (first | omega | (simp only [decide_eq_true_eq, decide_eq_false_iff_not, IntKind.min, IntKind.max, IntKind.bits, IntKind.signed, List.length_map, in64] at *; omega)); (first | omega | (simp only [decide_eq_true_eq, decide_eq_false_iff_not, IntKind.min, IntKind.max, IntKind.bits, IntKind.signed, List.length_map, in64] at *; omega)); refine fun ch hch => ?_)
    | (apply WPS.idxK; exact rfl; exact rfl; exact rfl; exact rfl; exact rfl; exact rfl; exact rfl; exact rfl; decide; exact fun _ => rfl; (first | omega | (simp only [decide_eq_true_eq, decide_eq_false_iff_not, IntKind.min, IntKind.max, IntKind.bits, IntKind.signed, List.length_map, in64] at *; omega)); assumption)
    | (apply WPS.idxA; exact rfl; exact rfl; exact rfl; exact rfl; exact rfl; exact rfl; exact rfl; exact rfl; decide; exact fun _ => rfl; (first | omega | (simp only [decide_eq_true_eq, decide_eq_false_iff_not, IntKind.min, IntKind.max, IntKind.bits, IntKind.signed, List.length_map, in64] at *; omega)); (first | omega | (simp only [decide_eq_true_eq, decide_eq_false_iff_not, IntKind.min, IntKind.max, IntKind.bits, IntKind.signed, List.length_map, in64] at *; omega)); refine fun a ha => ?_)
    | (apply WPS.num; exact rfl; exact rfl; exact rfl; exact rfl; exact rfl; decide; exact ⟨by first | omega | (simp only [decide_eq_true_eq, decide_eq_false_iff_not, IntKind.min, IntKind.max, IntKind.bits, IntKind.signed, List.length_map, in64] at *; omega), by first | omega | (simp only [decide_eq_true_eq, decide_eq_false_iff_not, IntKind.min, IntKind.max, IntKind.bits, IntKind.signed, List.length_map, in64] at *; omega)⟩)
    | (apply WPS.val; exact rfl; exact rfl; exact rfl; exact rfl; (conv => lhs; whnf); exact rfl; decide)
    | (apply WPS.pure; exact rfl; exact rfl; exact rfl; exact rfl; exact rfl; decide)
    | (apply WPS.eff; exact rfl; exact rfl; exact rfl; exact rfl; exact rfl; exact rfl; decide)
    | (apply WPS.eff0; exact rfl; exact rfl; exact rfl; exact rfl; exact rfl; exact rfl)
    | (apply WPS.skip; exact rfl; exact rfl; decide)
    | (apply WPS.skip0; exact rfl; exact rfl)
    | (apply WPS.nil; exact rfl)
    | (apply WP.cond_t; exact rfl)
    | (apply WP.cond_f; exact rfl)
    | apply WP.skip
    | apply WP.exit
    | (apply WP.ret; refine ⟨.inr rfl, ?_⟩; refine ⟨_, rfl, ?_⟩)
    | apply WP.block)
  refine WP.loop l.length (fun m st => ∃ i : Nat, m = l.length - i ∧ i ≤ l.length ∧ ∃ τ0, st = ⟨fnT 27 (updL τ0 [(0, .slc (l.map encA)), (3, outD encA (l.take i)), (4, .int .i64 i)]), outH encA (l.take i)⟩)
    ⟨0, rfl, Nat.zero_le _, at_slots _ ⟨rfl, rfl, rfl, trivial⟩ rfl⟩ (by omega) ?_
  rintro m _ ⟨i, rfl, hi, τ0, rfl⟩
  refine ⟨_, rfl, ?_⟩
  rcases Nat.eq_zero_or_pos i with rfl | hpos
  · simp only [List.take_zero, outD, outH]
    repeat' (first
      | apply WP.seq
      | apply WP.reg
      | (apply WPS.mv; exact .inl rfl; exact rfl; exact rfl; decide; (conv => lhs; whnf); exact rfl; decide)
      | (apply WPS.mv; exact .inr rfl; exact rfl; exact rfl; decide; (conv => lhs; whnf); exact rfl; decide)
      | (apply WPS.cmp; exact rfl; exact rfl; exact rfl; exact rfl; exact rfl; decide; rintro (_ | _) hb)
      | (apply WPS.idx; exact rfl; exact rfl; exact rfl; exact rfl; exact rfl; exact rfl; exact rfl; decide; (first | omega | (simp only [decide_eq_true_eq, decide_eq_false_iff_not, IntKind.min, IntKind.max, IntKind.bits, IntKind.signed, List.length_map, in64] at *; omega)); (first | omega | (simp only [decide_eq_true_eq, decide_eq_false_iff_not, IntKind.min, IntKind.max, IntKind.bits, IntKind.signed, List.length_map, in64] at *; omega)); refine fun ch hch => ?_)
      | (apply WPS.idxK; exact rfl; exact rfl; exact rfl; exact rfl; exact rfl; exact rfl; exact rfl; exact rfl; decide; exact fun _ => rfl; (first | omega | (simp only [decide_eq_true_eq, decide_eq_false_iff_not, IntKind.min, IntKind.max, IntKind.bits, IntKind.signed, List.length_map, in64] at *; omega)); assumption)
      | (apply WPS.idxA; exact rfl; exact rfl; exact rfl; exact rfl; exact rfl; exact rfl; exact rfl; exact rfl; decide; exact fun _ => rfl; (first | omega | (simp only [decide_eq_true_eq, decide_eq_false_iff_not, IntKind.min, IntKind.max, IntKind.bits, IntKind.signed, List.length_map, in64] at *; omega)); (first | omega | (simp only [decide_eq_true_eq, decide_eq_false_iff_not, IntKind.min, IntKind.max, IntKind.bits, IntKind.signed, List.length_map, in64] at *; omega)); refine fun a ha => ?_)
      | (apply WPS.num; exact rfl; exact rfl; exact rfl; exact rfl; exact rfl; decide; exact ⟨by first | omega | (simp only [decide_eq_true_eq, decide_eq_false_iff_not, IntKind.min, IntKind.max, IntKind.bits, IntKind.signed, List.length_map, in64] at *; omega), by first | omega | (simp only [decide_eq_true_eq, decide_eq_false_iff_not, IntKind.min, IntKind.max, IntKind.bits, IntKind.signed, List.length_map, in64] at *; omega)⟩)
      | (apply WPS.askL (g := 41); exact rfl; exact rfl; exact rfl; exact rfl; exact rfl; exact rfl; exact rfl; decide; exact c41 _ _ _ _)
      | (apply WPS.val; exact rfl; exact rfl; exact rfl; exact rfl; (conv => lhs; whnf); exact rfl; decide)
      | (apply WPS.pure; exact rfl; exact rfl; exact rfl; exact rfl; exact rfl; decide)
      | (apply WPS.eff; exact rfl; exact rfl; exact rfl; exact rfl; exact rfl; exact rfl; decide)
      | (apply WPS.eff0; exact rfl; exact rfl; exact rfl; exact rfl; exact rfl; exact rfl)
      | (apply WPS.skip; exact rfl; exact rfl; decide)
      | (apply WPS.skip0; exact rfl; exact rfl)
      | (apply WPS.nil; exact rfl)
      | (apply WP.cond_t; exact rfl)
      | (apply WP.cond_f; exact rfl)
      | apply WP.skip
      | apply WP.exit
      | (apply WP.ret; refine ⟨.inr rfl, ?_⟩; refine ⟨_, rfl, ?_⟩)
      | apply WP.block)
    · have : l = [] := List.eq_nil_of_length_eq_zero (by simp only [decide_eq_false_iff_not, List.length_map] at *; omega)
      subst this
      exact ⟨rfl, rfl⟩
    · obtain ⟨l', rfl⟩ : ∃ l', l = a :: l' := by
        cases l with
        | nil => simp at ha
        | cons b l' => exact ⟨l', by simpa using ha⟩
      exact thenQ_n ⟨l'.length, by simp only [List.length_cons]; omega, 1, by simp, by simp, at_slots _ ⟨rfl, rfl, rfl, trivial⟩ rfl⟩
  · obtain ⟨x, xs, hx⟩ : ∃ x xs, l.take i = x :: xs := by
      cases h : l.take i with
      | nil => rw [List.take_eq_nil_iff] at h; rcases h with h | h; omega; subst h; simp at hi; omega
      | cons x xs => exact ⟨x, xs, rfl⟩
    have hxl : (x :: xs).length = i := by rw [← hx, List.length_take]; omega
    rw [hx]
    simp only [outD, outH]
    repeat' (first
      | apply WP.seq
      | apply WP.reg
      | (apply WPS.mv; exact .inl rfl; exact rfl; exact rfl; decide; (conv => lhs; whnf); exact rfl; decide)
      | (apply WPS.mv; exact .inr rfl; exact rfl; exact rfl; decide; (conv => lhs; whnf); exact rfl; decide)
      | (apply WPS.cmp; exact rfl; exact rfl; exact rfl; exact rfl; exact rfl; decide; rintro (_ | _) hb)
      | (apply WPS.idx; exact rfl; exact rfl; exact rfl; exact rfl; exact rfl; exact rfl; exact rfl; decide; (first | omega | (simp only [decide_eq_true_eq, decide_eq_false_iff_not, IntKind.min, IntKind.max, IntKind.bits, IntKind.signed, List.length_map, in64] at *; omega)); (first | omega | (simp only [decide_eq_true_eq, decide_eq_false_iff_not, IntKind.min, IntKind.max, IntKind.bits, IntKind.signed, List.length_map, in64] at *; omega)); refine fun ch hch => ?_)
      | (apply WPS.idxK; exact rfl; exact rfl; exact rfl; exact rfl; exact rfl; exact rfl; exact rfl; exact rfl; decide; exact fun _ => rfl; (first | omega | (simp only [decide_eq_true_eq, decide_eq_false_iff_not, IntKind.min, IntKind.max, IntKind.bits, IntKind.signed, List.length_map, in64] at *; omega)); assumption)
      | (apply WPS.idxA; exact rfl; exact rfl; exact rfl; exact rfl; exact rfl; exact rfl; exact rfl; exact rfl; decide; exact fun _ => rfl; (first | omega | (simp only [decide_eq_true_eq, decide_eq_false_iff_not, IntKind.min, IntKind.max, IntKind.bits, IntKind.signed, List.length_map, in64] at *; omega)); (first | omega | (simp only [decide_eq_true_eq, decide_eq_false_iff_not, IntKind.min, IntKind.max, IntKind.bits, IntKind.signed, List.length_map, in64] at *; omega)); refine fun a ha => ?_)
      | (apply WPS.num; exact rfl; exact rfl; exact rfl; exact rfl; exact rfl; decide; exact ⟨by first | omega | (simp only [decide_eq_true_eq, decide_eq_false_iff_not, IntKind.min, IntKind.max, IntKind.bits, IntKind.signed, List.length_map, in64] at *; omega), by first | omega | (simp only [decide_eq_true_eq, decide_eq_false_iff_not, IntKind.min, IntKind.max, IntKind.bits, IntKind.signed, List.length_map, in64] at *; omega)⟩)
      | (apply WPS.askL (g := 41); exact rfl; exact rfl; exact rfl; exact rfl; exact rfl; exact rfl; exact rfl; decide; exact c41 _ _ _ _)
      | (apply WPS.app; exact rfl; exact rfl; exact rfl; exact rfl; exact rfl; exact rfl; exact rfl; exact rfl; exact rfl; exact rfl; exact rfl; decide; exact rfl; exact List.length_map _; exact rfl; exact rfl; exact ⟨by show ((x :: xs).length + 1) * 72 ≤ 140737488355328; omega, by show (x :: xs).length + 1 ≤ 9223372036854775807; omega⟩)
      | (apply WPS.val; exact rfl; exact rfl; exact rfl; exact rfl; (conv => lhs; whnf); exact rfl; decide)
      | (apply WPS.pure; exact rfl; exact rfl; exact rfl; exact rfl; exact rfl; decide)
      | (apply WPS.eff; exact rfl; exact rfl; exact rfl; exact rfl; exact rfl; exact rfl; decide)
      | (apply WPS.eff0; exact rfl; exact rfl; exact rfl; exact rfl; exact rfl; exact rfl)
      | (apply WPS.skip; exact rfl; exact rfl; decide)
      | (apply WPS.skip0; exact rfl; exact rfl)
      | (apply WPS.nil; exact rfl)
      | (apply WP.cond_t; exact rfl)
      | (apply WP.cond_f; exact rfl)
      | apply WP.skip
      | apply WP.exit
      | (apply WP.ret; refine ⟨.inr rfl, ?_⟩; refine ⟨_, rfl, ?_⟩)
      | apply WP.block)
    · have hil : i = l.length := by simp only [decide_eq_false_iff_not, List.length_map] at *; omega
      have hlx : l = x :: xs := by rw [← hx, hil, List.take_length]
      subst hlx
      exact ⟨rfl, rfl⟩
    · have ha' : l[i]? = some a := by simpa using ha
      have ht : l.take (i + 1) = x :: (xs ++ [a]) := by rw [List.take_add_one, hx, ha']; rfl
      refine thenQ_n (⟨l.length - (i + 1), by first | omega | (simp only [decide_eq_true_eq, decide_eq_false_iff_not, IntKind.min, IntKind.max, IntKind.bits, IntKind.signed, List.length_map, in64] at *; omega), i + 1, rfl, by first | omega | (simp only [decide_eq_true_eq, decide_eq_false_iff_not, IntKind.min, IntKind.max, IntKind.bits, IntKind.signed, List.length_map, in64] at *; omega), ?_⟩ : ∃ m', _ ∧ ∃ i, _)
      rw [ht]
      refine at_slots _ ⟨rfl, ?_, rfl, trivial⟩ ?_
      · show D.arr 0 ((x :: xs).length + 1) = D.arr 0 (x :: (xs ++ [a])).length
        simp
      · show [(⟨(x :: xs).map encA ++ [encA a], 0⟩ : Ob)] = [⟨(x :: (xs ++ [a])).map encA, 0⟩]
        simp
end Go.Cv
