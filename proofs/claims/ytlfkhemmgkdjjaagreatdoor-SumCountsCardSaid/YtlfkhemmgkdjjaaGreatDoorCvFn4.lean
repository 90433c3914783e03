/- Paths: cut, Parse. -/
import Derived.Test.YtlfkhemmgkdjjaaGreatDoorCvFn3
import Derived.Test.YtlfkhemmgkdjjaaGreatDoorCvWs3
set_option maxRecDepth 100000
set_option linter.unusedVariables false
set_option linter.unusedSimpArgs false
namespace Go.Cv
open Go.Proofs
attribute [local irreducible] WP WPS WPO

def encS (s : List UInt8) : List D := [.str s]
theorem encS_free (l : List (List UInt8)) : rowFree (l.map encS) = true := List.all_eq_true.2 fun x hx => by obtain ⟨b, _, rfl⟩ := List.mem_map.1 hx; rfl

/-- Texts and a truth value. -/
def IsCut (n : Nat) (d : D) (H : Heap) : Prop := ∃ (xs : List (List UInt8)) (b : Bool), view H d = some (.tup [.slc (xs.map encS), .bool b]) ∧ xs.length ≤ n
theorem cut0 (n : Nat) (b : Bool) : IsCut n (.tup [.emp, .bool b]) [] := ⟨[], b, rfl, Nat.zero_le _⟩
theorem cut1 {n : Nat} {xs : List (List UInt8)} {last : List UInt8} (h : xs.length < n) (b : Bool) : IsCut n (.tup [.arr 0 (xs.length + 1), .bool b]) [⟨xs.map encS ++ [[.str last]], 0⟩] := by
  refine ⟨xs ++ [last], b, ?_, by simp; omega⟩
  have h1 : xs.map encS ++ [[.str last]] = (xs ++ [last]).map encS := by simp [encS]
  show (view.viewT [⟨xs.map encS ++ [[.str last]], 0⟩] [.arr 0 (xs.length + 1), .bool b]).map D.tup = _
  have h2 : view1 [⟨(xs ++ [last]).map encS, 0⟩] (.arr 0 (xs.length + 1)) = some (.slc ((xs ++ [last]).map encS)) := by
    show (if ((xs ++ [last]).map encS).length == xs.length + 1 && rowFree ((xs ++ [last]).map encS) then some (D.slc ((xs ++ [last]).map encS)) else none) = _
    rw [encS_free]
    simp
  rw [h1]
  simp only [view.viewT, h2]
  rfl

theorem cut_last (xs : List (List UInt8)) (last : List UInt8) : (xs.map encS ++ [[D.str last]])[(((xs.length + 1 : Nat) : Int) - 1).toNat]? = some [D.str last] := by
  have : (((xs.length + 1 : Nat) : Int) - 1).toNat = xs.length := by omega
  rw [this, List.getElem?_append_right (by simp)]
  simp
theorem cut_set (xs : List (List UInt8)) (last new : List UInt8) : (xs.map encS ++ [[D.str last]]).set (((xs.length + 1 : Nat) : Int) - 1).toNat [D.str new] = xs.map encS ++ [[D.str new]] := by
  have : (((xs.length + 1 : Nat) : Int) - 1).toNat = xs.length := by omega
  rw [this, List.set_append_right _ _ (by simp)]
  simp
theorem cut_len (xs : List (List UInt8)) (last : List UInt8) : (xs.map encS ++ [[D.str last]]).length = xs.length + 1 := by simp

set_option maxHeartbeats 4000000 in
theorem f296 (k : Nat) (hk : 300 ≤ k) (s : List UInt8) (hs : s.length ≤ 100) : ∃ d H', pcall E0 (k + 1) 296 [.str s] [] = some (.ret d, H') ∧ IsCut 101 d H' := by
  rcases Nat.eq_zero_or_pos s.length with h0 | hpos
  · obtain rfl : s = [] := List.eq_nil_of_length_eq_zero h0
    have h : pcall E0 (k + 1) 296 [.str []] [] = some (.ret (.tup [.emp, .bool false]), []) := by kernel_rfl
    exact ⟨_, _, h, cut0 _ _⟩
  refine pcall_ret (fn := Tryz.f296) (Q := fun d H' => IsCut 101 d H') rfl rfl rfl rfl ?_
  rw [of_fnT]
  repeat' (first
    | apply WP.seq
    | apply WP.reg
    | (apply WPS.mv; exact .inl rfl; exact rfl; exact rfl; decide; (conv => lhs; whnf); exact rfl; decide)
    | (apply WPS.mv; exact .inr rfl; exact rfl; exact rfl; decide; (conv => lhs; whnf); exact rfl; decide)
    | (apply WPS.cmp; exact rfl; exact rfl; exact rfl; exact rfl; exact rfl; decide; rintro (_ | _) hb)
    | (apply WPS.idx; exact rfl; exact rfl; exact rfl; exact rfl; exact rfl; exact rfl; exact rfl; decide; (first | omega | (simp only [decide_eq_true_eq, decide_eq_false_iff_not, IntKind.min, IntKind.max, IntKind.bits, IntKind.signed, List.length_map, in64] at *; omega)); (first | omega | (simp only [decide_eq_true_eq, decide_eq_false_iff_not, IntKind.min, IntKind.max, IntKind.bits, IntKind.signed, List.length_map, in64] at *; omega)); refine fun ch hch => ?_)
    | (apply WPS.idxK; exact rfl; exact rfl; exact rfl; exact rfl; exact rfl; exact rfl; exact rfl; exact rfl; decide; exact fun _ => rfl; (first | omega | (simp only [decide_eq_true_eq, decide_eq_false_iff_not, IntKind.min, IntKind.max, IntKind.bits, IntKind.signed, List.length_map, in64] at *; omega)); assumption)
    | (apply WPS.idxA; exact rfl; exact rfl; exact rfl; exact rfl; exact rfl; exact rfl; exact rfl; exact rfl; decide; exact fun _ => rfl; (first | omega | (simp only [decide_eq_true_eq, decide_eq_false_iff_not, IntKind.min, IntKind.max, IntKind.bits, IntKind.signed, List.length_map, in64] at *; omega)); (first | omega | (simp only [decide_eq_true_eq, decide_eq_false_iff_not, IntKind.min, IntKind.max, IntKind.bits, IntKind.signed, List.length_map, in64] at *; omega)); refine fun a ha => ?_)
    | (apply WPS.num; exact rfl; exact rfl; exact rfl; exact rfl; exact rfl; decide; exact ⟨by first | omega | (simp only [decide_eq_true_eq, decide_eq_false_iff_not, IntKind.min, IntKind.max, IntKind.bits, IntKind.signed, List.length_map, in64] at *; omega), by first | omega | (simp only [decide_eq_true_eq, decide_eq_false_iff_not, IntKind.min, IntKind.max, IntKind.bits, IntKind.signed, List.length_map, in64] at *; omega)⟩)
    | (apply WPS.val; exact rfl; exact rfl; exact rfl; exact rfl; (conv => lhs; whnf); exact rfl; decide)
    | (apply WPS.pure; exact rfl; exact rfl; exact rfl; exact rfl; exact rfl; decide)
    | (apply WPS.eff; exact rfl; exact rfl; exact rfl; exact rfl; exact rfl; exact rfl; decide)
    | (apply WPS.eff0; exact rfl; exact rfl; exact rfl; exact rfl; exact rfl; exact rfl)
    | (apply WPS.skip; exact rfl; exact rfl; decide)
    | (apply WPS.skip0; exact rfl; exact rfl)
    | (apply WPS.nil; exact rfl)
    | (apply WP.cond_t; exact rfl)
    | (apply WP.cond_f; exact rfl)
    | apply WP.skip
    | apply WP.exit
    | (apply WP.ret; refine ⟨.inr rfl, ?_⟩; refine ⟨_, rfl, ?_⟩)
    | apply WP.block)
  all_goals try exact cut0 _ _
  refine WP.loop (s.length - 1) (fun m st => ∃ (i : Nat) (xs : List (List UInt8)) (last : List UInt8), m = s.length - i ∧ i ≤ s.length ∧ xs.length < i ∧ last.length ≤ i ∧ ∃ τ0, st = ⟨fnT 47 (updL τ0 [(0, .str s), (4, .arr 0 (xs.length + 1)), (5, .int .i64 i)]), [⟨xs.map encS ++ [[.str last]], 0⟩]⟩)
    ?_ (by omega) ?_
  · refine ⟨1, [], [], rfl, hpos, Nat.zero_lt_one, Nat.zero_le _, ?_⟩
    exact at_slots [(0, .str s), (4, .arr 0 1), (5, .int .i64 1)] ⟨rfl, rfl, rfl, trivial⟩ rfl
  rintro m _ ⟨i, xs, last, rfl, hi, hx, hla, τ0, rfl⟩
  refine ⟨_, rfl, ?_⟩
  repeat' (first
    | apply WP.seq
    | apply WP.reg
    | (apply WPS.mv; exact .inl rfl; exact rfl; exact rfl; decide; (conv => lhs; whnf); exact rfl; decide)
    | (apply WPS.mv; exact .inr rfl; exact rfl; exact rfl; decide; (conv => lhs; whnf); exact rfl; decide)
    | (apply WPS.cmp; exact rfl; exact rfl; exact rfl; exact rfl; exact rfl; decide; rintro (_ | _) hb)
    | (apply WPS.idx; exact rfl; exact rfl; exact rfl; exact rfl; exact rfl; exact rfl; exact rfl; decide; (first | omega | (simp only [decide_eq_true_eq, decide_eq_false_iff_not, IntKind.min, IntKind.max, IntKind.bits, IntKind.signed, List.length_map, in64] at *; omega)); (first | omega | (simp only [decide_eq_true_eq, decide_eq_false_iff_not, IntKind.min, IntKind.max, IntKind.bits, IntKind.signed, List.length_map, in64] at *; omega)); refine fun ch hch => ?_)
    | (apply WPS.idxK; exact rfl; exact rfl; exact rfl; exact rfl; exact rfl; exact rfl; exact rfl; exact rfl; decide; exact fun _ => rfl; (first | omega | (simp only [decide_eq_true_eq, decide_eq_false_iff_not, IntKind.min, IntKind.max, IntKind.bits, IntKind.signed, List.length_map, in64] at *; omega)); assumption)
    | (apply WPS.idxA; exact rfl; exact rfl; exact rfl; exact rfl; exact rfl; exact rfl; exact rfl; exact rfl; decide; exact fun _ => rfl; (first | omega | (simp only [decide_eq_true_eq, decide_eq_false_iff_not, IntKind.min, IntKind.max, IntKind.bits, IntKind.signed, List.length_map, in64] at *; omega)); (first | omega | (simp only [decide_eq_true_eq, decide_eq_false_iff_not, IntKind.min, IntKind.max, IntKind.bits, IntKind.signed, List.length_map, in64] at *; omega)); refine fun a ha => ?_)
    | (apply WPS.num; exact rfl; exact rfl; exact rfl; exact rfl; exact rfl; decide; exact ⟨by first | omega | (simp only [decide_eq_true_eq, decide_eq_false_iff_not, IntKind.min, IntKind.max, IntKind.bits, IntKind.signed, List.length_map, in64] at *; omega), by first | omega | (simp only [decide_eq_true_eq, decide_eq_false_iff_not, IntKind.min, IntKind.max, IntKind.bits, IntKind.signed, List.length_map, in64] at *; omega)⟩)
    | (apply WPS.lenArr; exact rfl; exact rfl; exact rfl; exact rfl; exact rfl; exact rfl; exact rfl; exact rfl; exact rfl; exact cut_len _ _; exact rfl; decide)
    | (apply WPS.idxArr; exact rfl; exact rfl; exact rfl; exact rfl; exact rfl; exact rfl; exact rfl; exact rfl; exact cut_len _ _; exact rfl; decide; (first | omega | (simp only [decide_eq_true_eq, decide_eq_false_iff_not, IntKind.min, IntKind.max, IntKind.bits, IntKind.signed, List.length_map, in64] at *; omega)); (first | omega | (simp only [decide_eq_true_eq, decide_eq_false_iff_not, IntKind.min, IntKind.max, IntKind.bits, IntKind.signed, List.length_map, in64] at *; omega)); exact cut_last _ _; exact rfl)
    | (apply WPS.loadP; exact rfl; exact rfl; exact rfl; exact rfl; exact rfl; exact rfl; exact cut_len _ _; exact cut_last _ _; exact rfl; exact rfl; decide)
    | (apply WPS.ssub; exact rfl; exact rfl; exact rfl; exact rfl; exact rfl; exact rfl; exact rfl; exact rfl; decide; ((first | omega | (simp only [decide_eq_true_eq, decide_eq_false_iff_not, IntKind.min, IntKind.max, IntKind.bits, IntKind.signed, List.length_map, in64] at *; omega))); ((first | omega | (simp only [decide_eq_true_eq, decide_eq_false_iff_not, IntKind.min, IntKind.max, IntKind.bits, IntKind.signed, List.length_map, in64] at *; omega))); ((first | omega | (simp only [decide_eq_true_eq, decide_eq_false_iff_not, IntKind.min, IntKind.max, IntKind.bits, IntKind.signed, List.length_map, in64] at *; omega))))
    | (apply WPS.sadd; exact rfl; exact rfl; exact rfl; exact rfl; exact rfl; exact rfl; decide; (simp only [List.length_drop, List.length_take, decide_eq_true_eq] at *; omega))
    | (apply WPS.storeP; exact rfl; exact rfl; exact rfl; exact rfl; exact rfl; exact rfl; exact rfl; exact rfl; exact cut_len _ _; exact rfl; exact cut_last _ _; exact rfl; exact rfl; exact rfl)
    | (apply WPS.app; exact rfl; exact rfl; exact rfl; exact rfl; exact rfl; exact rfl; exact rfl; exact rfl; exact rfl; exact rfl; exact rfl; decide; exact rfl; exact cut_len _ _; exact rfl; (cases xs <;> exact rfl); exact ⟨by show (xs.length + 1 + 1) * 16 ≤ 140737488355328; omega, by show xs.length + 1 + 1 ≤ 9223372036854775807; omega⟩)
    | (apply WPS.val; exact rfl; exact rfl; exact rfl; exact rfl; (conv => lhs; whnf); exact rfl; decide)
    | (apply WPS.pure; exact rfl; exact rfl; exact rfl; exact rfl; exact rfl; decide)
    | (apply WPS.eff; exact rfl; exact rfl; exact rfl; exact rfl; exact rfl; exact rfl; decide)
    | (apply WPS.eff0; exact rfl; exact rfl; exact rfl; exact rfl; exact rfl; exact rfl)
    | (apply WPS.skip; exact rfl; exact rfl; decide)
    | (apply WPS.skip0; exact rfl; exact rfl)
    | (apply WPS.nil; exact rfl)
    | (apply WP.cond_t; exact rfl)
    | (apply WP.cond_f; exact rfl)
    | apply WP.skip
    | apply WP.exit
    | (apply WP.ret; refine ⟨.inr rfl, ?_⟩; refine ⟨_, rfl, ?_⟩)
    | apply WP.block)
  · exact cut1 (by omega) _
  · simp only [decide_eq_true_eq] at *
    refine thenQ_n ?_
    refine ⟨s.length - (i + 1), by omega, i + 1, xs, last ++ ((s.take ((i : Int) + 1).toNat).drop (i : Int).toNat), rfl, by omega, by omega, by simp only [List.length_append, List.length_drop, List.length_take]; omega, at_slots _ ⟨rfl, rfl, rfl, trivial⟩ ?_⟩
    exact congrArg (fun l => [(⟨l, 0⟩ : Ob)]) (cut_set xs last (last ++ ((s.take ((i : Int) + 1).toNat).drop (i : Int).toNat)))
  · simp only [decide_eq_true_eq] at *
    refine thenQ_n ?_
    refine ⟨s.length - (i + 1), by omega, i + 1, xs ++ [last], [], rfl, by omega, by simp; omega, Nat.zero_le _, at_slots _ ⟨rfl, ?_, rfl, trivial⟩ ?_⟩
    · show D.arr 0 (xs.length + 1 + 1) = D.arr 0 ((xs ++ [last]).length + 1)
      simp
    · show [(⟨xs.map encS ++ [[.str last]] ++ [[.str []]], 0⟩ : Ob)] = [⟨(xs ++ [last]).map encS ++ [[.str []]], 0⟩]
      simp [encS]

theorem c296 (k : Nat) (hk : 300 ≤ k) (s : List UInt8) (hs : s.length ≤ 100) (H : Heap) (m : Nat) : ∃ (xs : List (List UInt8)) (b : Bool), callPure (pcall E0 (k + 1)) true 296 [.str s] H m = some (.tup [.slc (xs.map encS), .bool b], []) ∧ xs.length ≤ 101 := by
  obtain ⟨d, H', h, xs, b, hv, hx⟩ := f296 k hk s hs
  exact ⟨xs, b, callPure_view rfl rfl h hv rfl rfl, hx⟩

/-- Texts and a number. -/
def IsPar (d : D) (H : Heap) : Prop := ∃ (xs : List (List UInt8)) (n : Int), view H d = some (.tup [.slc (xs.map encS), .int .i64 n])

set_option maxHeartbeats 4000000 in
theorem f252 (k : Nat) (hk : 302 ≤ k) (s : List UInt8) (hs : s.length ≤ 100) : ∃ d H', pcall E0 (k + 1) 252 [.str s] [] = some (.ret d, H') ∧ IsPar d H' := by
  obtain ⟨k', rfl⟩ : ∃ k', k = k' + 1 := ⟨k - 1, by omega⟩
  obtain ⟨xs, b, hc, hx⟩ := c296 k' (by omega) s hs [] 0
  refine pcall_ret (fn := Tryz.f252) (Q := fun d H' => IsPar d H') rfl rfl rfl rfl ?_
  rw [of_fnT]
  rcases b with _ | _
  · skip
    repeat' (first
      | apply WP.seq
      | apply WP.reg
      | (apply WPS.mv; exact .inl rfl; exact rfl; exact rfl; decide; (conv => lhs; whnf); exact rfl; decide)
      | (apply WPS.mv; exact .inr rfl; exact rfl; exact rfl; decide; (conv => lhs; whnf); exact rfl; decide)
      | (apply WPS.cmp; exact rfl; exact rfl; exact rfl; exact rfl; exact rfl; decide; rintro (_ | _) hb)
      | (apply WPS.idx; exact rfl; exact rfl; exact rfl; exact rfl; exact rfl; exact rfl; exact rfl; decide; (first | omega | (simp only [decide_eq_true_eq, decide_eq_false_iff_not, IntKind.min, IntKind.max, IntKind.bits, IntKind.signed, List.length_map, in64] at *; omega)); (first | omega | (simp only [decide_eq_true_eq, decide_eq_false_iff_not, IntKind.min, IntKind.max, IntKind.bits, IntKind.signed, List.length_map, in64] at *; omega)); refine fun ch hch => ?_)
      | (apply WPS.idxK; exact rfl; exact rfl; exact rfl; exact rfl; exact rfl; exact rfl; exact rfl; exact rfl; decide; exact fun _ => rfl; (first | omega | (simp only [decide_eq_true_eq, decide_eq_false_iff_not, IntKind.min, IntKind.max, IntKind.bits, IntKind.signed, List.length_map, in64] at *; omega)); assumption)
      | (apply WPS.idxA; exact rfl; exact rfl; exact rfl; exact rfl; exact rfl; exact rfl; exact rfl; exact rfl; decide; exact fun _ => rfl; (first | omega | (simp only [decide_eq_true_eq, decide_eq_false_iff_not, IntKind.min, IntKind.max, IntKind.bits, IntKind.signed, List.length_map, in64] at *; omega)); (first | omega | (simp only [decide_eq_true_eq, decide_eq_false_iff_not, IntKind.min, IntKind.max, IntKind.bits, IntKind.signed, List.length_map, in64] at *; omega)); refine fun a ha => ?_)
      | (apply WPS.num; exact rfl; exact rfl; exact rfl; exact rfl; exact rfl; decide; exact ⟨by first | omega | (simp only [decide_eq_true_eq, decide_eq_false_iff_not, IntKind.min, IntKind.max, IntKind.bits, IntKind.signed, List.length_map, in64] at *; omega), by first | omega | (simp only [decide_eq_true_eq, decide_eq_false_iff_not, IntKind.min, IntKind.max, IntKind.bits, IntKind.signed, List.length_map, in64] at *; omega)⟩)
      | (apply WPS.askL (g := 296); exact rfl; exact rfl; exact rfl; exact rfl; exact rfl; exact rfl; exact rfl; decide; exact hc)
      | (apply WPS.val; exact rfl; exact rfl; exact rfl; exact rfl; (conv => lhs; whnf); exact rfl; decide)
      | (apply WPS.pure; exact rfl; exact rfl; exact rfl; exact rfl; exact rfl; decide)
      | (apply WPS.eff; exact rfl; exact rfl; exact rfl; exact rfl; exact rfl; exact rfl; decide)
      | (apply WPS.eff0; exact rfl; exact rfl; exact rfl; exact rfl; exact rfl; exact rfl)
      | (apply WPS.skip; exact rfl; exact rfl; decide)
      | (apply WPS.skip0; exact rfl; exact rfl)
      | (apply WPS.nil; exact rfl)
      | (apply WP.cond_t; exact rfl)
      | (apply WP.cond_f; exact rfl)
      | apply WP.skip
      | apply WP.exit
      | (apply WP.ret; refine ⟨.inr rfl, ?_⟩; refine ⟨_, rfl, ?_⟩)
      | apply WP.block)
    all_goals exact ⟨[], _, rfl⟩
  repeat' (first
    | apply WP.seq
    | apply WP.reg
    | (apply WPS.mv; exact .inl rfl; exact rfl; exact rfl; decide; (conv => lhs; whnf); exact rfl; decide)
    | (apply WPS.mv; exact .inr rfl; exact rfl; exact rfl; decide; (conv => lhs; whnf); exact rfl; decide)
    | (apply WPS.cmp; exact rfl; exact rfl; exact rfl; exact rfl; exact rfl; decide; rintro (_ | _) hb)
    | (apply WPS.idx; exact rfl; exact rfl; exact rfl; exact rfl; exact rfl; exact rfl; exact rfl; decide; (first | omega | (simp only [decide_eq_true_eq, decide_eq_false_iff_not, IntKind.min, IntKind.max, IntKind.bits, IntKind.signed, List.length_map, in64] at *; omega)); (first | omega | (simp only [decide_eq_true_eq, decide_eq_false_iff_not, IntKind.min, IntKind.max, IntKind.bits, IntKind.signed, List.length_map, in64] at *; omega)); refine fun ch hch => ?_)
    | (apply WPS.idxK; exact rfl; exact rfl; exact rfl; exact rfl; exact rfl; exact rfl; exact rfl; exact rfl; decide; exact fun _ => rfl; (first | omega | (simp only [decide_eq_true_eq, decide_eq_false_iff_not, IntKind.min, IntKind.max, IntKind.bits, IntKind.signed, List.length_map, in64] at *; omega)); assumption)
    | (apply WPS.idxA; exact rfl; exact rfl; exact rfl; exact rfl; exact rfl; exact rfl; exact rfl; exact rfl; decide; exact fun _ => rfl; (first | omega | (simp only [decide_eq_true_eq, decide_eq_false_iff_not, IntKind.min, IntKind.max, IntKind.bits, IntKind.signed, List.length_map, in64] at *; omega)); (first | omega | (simp only [decide_eq_true_eq, decide_eq_false_iff_not, IntKind.min, IntKind.max, IntKind.bits, IntKind.signed, List.length_map, in64] at *; omega)); refine fun a ha => ?_)
    | (apply WPS.num; exact rfl; exact rfl; exact rfl; exact rfl; exact rfl; decide; exact ⟨by first | omega | (simp only [decide_eq_true_eq, decide_eq_false_iff_not, IntKind.min, IntKind.max, IntKind.bits, IntKind.signed, List.length_map, in64] at *; omega), by first | omega | (simp only [decide_eq_true_eq, decide_eq_false_iff_not, IntKind.min, IntKind.max, IntKind.bits, IntKind.signed, List.length_map, in64] at *; omega)⟩)
    | (apply WPS.askL (g := 296); exact rfl; exact rfl; exact rfl; exact rfl; exact rfl; exact rfl; exact rfl; decide; exact hc)
    | (apply WPS.val; exact rfl; exact rfl; exact rfl; exact rfl; (conv => lhs; whnf); exact rfl; decide)
    | (apply WPS.pure; exact rfl; exact rfl; exact rfl; exact rfl; exact rfl; decide)
    | (apply WPS.eff; exact rfl; exact rfl; exact rfl; exact rfl; exact rfl; exact rfl; decide)
    | (apply WPS.eff0; exact rfl; exact rfl; exact rfl; exact rfl; exact rfl; exact rfl)
    | (apply WPS.skip; exact rfl; exact rfl; decide)
    | (apply WPS.skip0; exact rfl; exact rfl)
    | (apply WPS.nil; exact rfl)
    | (apply WP.cond_t; exact rfl)
    | (apply WP.cond_f; exact rfl)
    | apply WP.skip
    | apply WP.exit
    | (apply WP.ret; refine ⟨.inr rfl, ?_⟩; refine ⟨_, rfl, ?_⟩)
    | apply WP.block)
  refine WP.loop xs.length (fun m st => ∃ i : Nat, m = xs.length - i ∧ i ≤ xs.length ∧ ∃ τ0, st = ⟨fnT 30 (updL τ0 [(4, .slc (xs.map encS)), (6, .int .i64 i)]), []⟩)
    ⟨0, rfl, Nat.zero_le _, at_slots _ ⟨rfl, rfl, trivial⟩ rfl⟩ (by omega) ?_
  rintro m _ ⟨i, rfl, hi, τ0, rfl⟩
  refine ⟨_, rfl, ?_⟩
  repeat' (first
    | apply WP.seq
    | apply WP.reg
    | (apply WPS.mv; exact .inl rfl; exact rfl; exact rfl; decide; (conv => lhs; whnf); exact rfl; decide)
    | (apply WPS.mv; exact .inr rfl; exact rfl; exact rfl; decide; (conv => lhs; whnf); exact rfl; decide)
    | (apply WPS.cmp; exact rfl; exact rfl; exact rfl; exact rfl; exact rfl; decide; rintro (_ | _) hb)
    | (apply WPS.idx; exact rfl; exact rfl; exact rfl; exact rfl; exact rfl; exact rfl; exact rfl; decide; (first | omega | (simp only [decide_eq_true_eq, decide_eq_false_iff_not, IntKind.min, IntKind.max, IntKind.bits, IntKind.signed, List.length_map, in64] at *; omega)); (first | omega | (simp only [decide_eq_true_eq, decide_eq_false_iff_not, IntKind.min, IntKind.max, IntKind.bits, IntKind.signed, List.length_map, in64] at *; omega)); refine fun ch hch => ?_)
    | (apply WPS.idxK; exact rfl; exact rfl; exact rfl; exact rfl; exact rfl; exact rfl; exact rfl; exact rfl; decide; exact fun _ => rfl; (first | omega | (simp only [decide_eq_true_eq, decide_eq_false_iff_not, IntKind.min, IntKind.max, IntKind.bits, IntKind.signed, List.length_map, in64] at *; omega)); assumption)
    | (apply WPS.idxA; exact rfl; exact rfl; exact rfl; exact rfl; exact rfl; exact rfl; exact rfl; exact rfl; decide; exact fun _ => rfl; (first | omega | (simp only [decide_eq_true_eq, decide_eq_false_iff_not, IntKind.min, IntKind.max, IntKind.bits, IntKind.signed, List.length_map, in64] at *; omega)); (first | omega | (simp only [decide_eq_true_eq, decide_eq_false_iff_not, IntKind.min, IntKind.max, IntKind.bits, IntKind.signed, List.length_map, in64] at *; omega)); refine fun a ha => ?_)
    | (apply WPS.num; exact rfl; exact rfl; exact rfl; exact rfl; exact rfl; decide; exact ⟨by first | omega | (simp only [decide_eq_true_eq, decide_eq_false_iff_not, IntKind.min, IntKind.max, IntKind.bits, IntKind.signed, List.length_map, in64] at *; omega), by first | omega | (simp only [decide_eq_true_eq, decide_eq_false_iff_not, IntKind.min, IntKind.max, IntKind.bits, IntKind.signed, List.length_map, in64] at *; omega)⟩)
    | (apply WPS.ask (g := 69); exact rfl; exact rfl; exact rfl; exact rfl; exact rfl; exact rfl; exact rfl; exact rfl; exact rfl; decide; exact (f69 _ (by omega) _); exact fun d h => ⟨plain_isB h, by obtain ⟨b, rfl, _⟩ := h; rfl⟩; rintro _ ⟨(_ | _), rfl, hp⟩)
    | (apply WPS.val; exact rfl; exact rfl; exact rfl; exact rfl; (conv => lhs; whnf); exact rfl; decide)
    | (apply WPS.pure; exact rfl; exact rfl; exact rfl; exact rfl; exact rfl; decide)
    | (apply WPS.eff; exact rfl; exact rfl; exact rfl; exact rfl; exact rfl; exact rfl; decide)
    | (apply WPS.eff0; exact rfl; exact rfl; exact rfl; exact rfl; exact rfl; exact rfl)
    | (apply WPS.skip; exact rfl; exact rfl; decide)
    | (apply WPS.skip0; exact rfl; exact rfl)
    | (apply WPS.nil; exact rfl)
    | (apply WP.cond_t; exact rfl)
    | (apply WP.cond_f; exact rfl)
    | apply WP.skip
    | apply WP.exit
    | (apply WP.ret; refine ⟨.inr rfl, ?_⟩; refine ⟨_, rfl, ?_⟩)
    | apply WP.block)
  all_goals (first
    | exact ⟨[], _, rfl⟩
    | exact ⟨xs, _, rfl⟩
    | exact thenQ_n ⟨xs.length - (i + 1), by first | omega | (simp only [decide_eq_true_eq, decide_eq_false_iff_not, IntKind.min, IntKind.max, IntKind.bits, IntKind.signed, List.length_map, in64] at *; omega), i + 1, rfl, by first | omega | (simp only [decide_eq_true_eq, decide_eq_false_iff_not, IntKind.min, IntKind.max, IntKind.bits, IntKind.signed, List.length_map, in64] at *; omega), at_slots _ ⟨rfl, rfl, trivial⟩ rfl⟩)

theorem c252 (k : Nat) (hk : 302 ≤ k) (s : List UInt8) (hs : s.length ≤ 100) (H : Heap) (m : Nat) : ∃ (xs : List (List UInt8)) (n : Int), callPure (pcall E0 (k + 1)) true 252 [.str s] H m = some (.tup [.slc (xs.map encS), .int .i64 n], []) := by
  obtain ⟨d, H', h, xs, b, hv⟩ := f252 k hk s hs
  exact ⟨xs, b, callPure_view rfl rfl h hv rfl rfl⟩

set_option maxHeartbeats 4000000 in
theorem f208 (k : Nat) (hk : 304 ≤ k) (s : List UInt8) (hs : s.length ≤ 100) : ∃ d H', pcall E0 (k + 1) 208 [.str s] [] = some (.ret d, H') ∧ IsB True d := by
  obtain ⟨k', rfl⟩ : ∃ k', k = k' + 1 := ⟨k - 1, by omega⟩
  obtain ⟨xs, n, hc⟩ := c252 k' (by omega) s hs [] 0
  refine pcall_ret (fn := Tryz.f208) (Q := fun d H' => IsB True d) rfl rfl rfl rfl ?_
  rw [of_fnT]
  repeat' (first
    | apply WP.seq
    | apply WP.reg
    | (apply WPS.mv; exact .inl rfl; exact rfl; exact rfl; decide; (conv => lhs; whnf); exact rfl; decide)
    | (apply WPS.mv; exact .inr rfl; exact rfl; exact rfl; decide; (conv => lhs; whnf); exact rfl; decide)
    | (apply WPS.cmp; exact rfl; exact rfl; exact rfl; exact rfl; exact rfl; decide; rintro (_ | _) hb)
    | (apply WPS.idx; exact rfl; exact rfl; exact rfl; exact rfl; exact rfl; exact rfl; exact rfl; decide; (first | omega | (simp only [decide_eq_true_eq, decide_eq_false_iff_not, IntKind.min, IntKind.max, IntKind.bits, IntKind.signed, List.length_map, in64] at *; omega)); (first | omega | (simp only [decide_eq_true_eq, decide_eq_false_iff_not, IntKind.min, IntKind.max, IntKind.bits, IntKind.signed, List.length_map, in64] at *; omega)); refine fun ch hch => ?_)
    | (apply WPS.idxK; exact rfl; exact rfl; exact rfl; exact rfl; exact rfl; exact rfl; exact rfl; exact rfl; decide; exact fun _ => rfl; (first | omega | (simp only [decide_eq_true_eq, decide_eq_false_iff_not, IntKind.min, IntKind.max, IntKind.bits, IntKind.signed, List.length_map, in64] at *; omega)); assumption)
    | (apply WPS.idxA; exact rfl; exact rfl; exact rfl; exact rfl; exact rfl; exact rfl; exact rfl; exact rfl; decide; exact fun _ => rfl; (first | omega | (simp only [decide_eq_true_eq, decide_eq_false_iff_not, IntKind.min, IntKind.max, IntKind.bits, IntKind.signed, List.length_map, in64] at *; omega)); (first | omega | (simp only [decide_eq_true_eq, decide_eq_false_iff_not, IntKind.min, IntKind.max, IntKind.bits, IntKind.signed, List.length_map, in64] at *; omega)); refine fun a ha => ?_)
    | (apply WPS.num; exact rfl; exact rfl; exact rfl; exact rfl; exact rfl; decide; exact ⟨by first | omega | (simp only [decide_eq_true_eq, decide_eq_false_iff_not, IntKind.min, IntKind.max, IntKind.bits, IntKind.signed, List.length_map, in64] at *; omega), by first | omega | (simp only [decide_eq_true_eq, decide_eq_false_iff_not, IntKind.min, IntKind.max, IntKind.bits, IntKind.signed, List.length_map, in64] at *; omega)⟩)
    | (apply WPS.askL (g := 252); exact rfl; exact rfl; exact rfl; exact rfl; exact rfl; exact rfl; exact rfl; decide; exact hc)
    | (apply WPS.val; exact rfl; exact rfl; exact rfl; exact rfl; (conv => lhs; whnf); exact rfl; decide)
    | (apply WPS.pure; exact rfl; exact rfl; exact rfl; exact rfl; exact rfl; decide)
    | (apply WPS.eff; exact rfl; exact rfl; exact rfl; exact rfl; exact rfl; exact rfl; decide)
    | (apply WPS.eff0; exact rfl; exact rfl; exact rfl; exact rfl; exact rfl; exact rfl)
    | (apply WPS.skip; exact rfl; exact rfl; decide)
    | (apply WPS.skip0; exact rfl; exact rfl)
    | (apply WPS.nil; exact rfl)
    | (apply WP.cond_t; exact rfl)
    | (apply WP.cond_f; exact rfl)
    | apply WP.skip
    | apply WP.exit
    | (apply WP.ret; refine ⟨.inr rfl, ?_⟩; refine ⟨_, rfl, ?_⟩)
    | apply WP.block)
  all_goals exact ⟨_, rfl, fun _ => trivial⟩

set_option maxHeartbeats 4000000 in
theorem f143 (k : Nat) (hk : 306 ≤ k) (s : List UInt8) (hs : s.length ≤ 100) : ∃ d H', pcall E0 (k + 1) 143 [.str s] [] = some (.ret d, H') ∧ IsB True d := by
  obtain ⟨k', rfl⟩ : ∃ k', k = k' + 1 := ⟨k - 1, by omega⟩
  refine pcall_ret (fn := Tryz.f143) (Q := fun d H' => IsB True d) rfl rfl rfl rfl ?_
  rw [of_fnT]
  repeat' (first
    | apply WP.seq
    | apply WP.reg
    | (apply WPS.mv; exact .inl rfl; exact rfl; exact rfl; decide; (conv => lhs; whnf); exact rfl; decide)
    | (apply WPS.mv; exact .inr rfl; exact rfl; exact rfl; decide; (conv => lhs; whnf); exact rfl; decide)
    | (apply WPS.cmp; exact rfl; exact rfl; exact rfl; exact rfl; exact rfl; decide; rintro (_ | _) hb)
    | (apply WPS.idx; exact rfl; exact rfl; exact rfl; exact rfl; exact rfl; exact rfl; exact rfl; decide; (first | omega | (simp only [decide_eq_true_eq, decide_eq_false_iff_not, IntKind.min, IntKind.max, IntKind.bits, IntKind.signed, List.length_map, in64] at *; omega)); (first | omega | (simp only [decide_eq_true_eq, decide_eq_false_iff_not, IntKind.min, IntKind.max, IntKind.bits, IntKind.signed, List.length_map, in64] at *; omega)); refine fun ch hch => ?_)
    | (apply WPS.idxK; exact rfl; exact rfl; exact rfl; exact rfl; exact rfl; exact rfl; exact rfl; exact rfl; decide; exact fun _ => rfl; (first | omega | (simp only [decide_eq_true_eq, decide_eq_false_iff_not, IntKind.min, IntKind.max, IntKind.bits, IntKind.signed, List.length_map, in64] at *; omega)); assumption)
    | (apply WPS.idxA; exact rfl; exact rfl; exact rfl; exact rfl; exact rfl; exact rfl; exact rfl; exact rfl; decide; exact fun _ => rfl; (first | omega | (simp only [decide_eq_true_eq, decide_eq_false_iff_not, IntKind.min, IntKind.max, IntKind.bits, IntKind.signed, List.length_map, in64] at *; omega)); (first | omega | (simp only [decide_eq_true_eq, decide_eq_false_iff_not, IntKind.min, IntKind.max, IntKind.bits, IntKind.signed, List.length_map, in64] at *; omega)); refine fun a ha => ?_)
    | (apply WPS.num; exact rfl; exact rfl; exact rfl; exact rfl; exact rfl; decide; exact ⟨by first | omega | (simp only [decide_eq_true_eq, decide_eq_false_iff_not, IntKind.min, IntKind.max, IntKind.bits, IntKind.signed, List.length_map, in64] at *; omega), by first | omega | (simp only [decide_eq_true_eq, decide_eq_false_iff_not, IntKind.min, IntKind.max, IntKind.bits, IntKind.signed, List.length_map, in64] at *; omega)⟩)
    | (apply WPS.ask (g := 208); exact rfl; exact rfl; exact rfl; exact rfl; exact rfl; exact rfl; exact rfl; exact rfl; exact rfl; decide; exact (f208 _ (by omega) _ hs); exact fun d h => ⟨plain_isB h, by obtain ⟨b, rfl, _⟩ := h; rfl⟩; rintro _ ⟨(_ | _), rfl, hp⟩)
    | (apply WPS.val; exact rfl; exact rfl; exact rfl; exact rfl; (conv => lhs; whnf); exact rfl; decide)
    | (apply WPS.pure; exact rfl; exact rfl; exact rfl; exact rfl; exact rfl; decide)
    | (apply WPS.eff; exact rfl; exact rfl; exact rfl; exact rfl; exact rfl; exact rfl; decide)
    | (apply WPS.eff0; exact rfl; exact rfl; exact rfl; exact rfl; exact rfl; exact rfl)
    | (apply WPS.skip; exact rfl; exact rfl; decide)
    | (apply WPS.skip0; exact rfl; exact rfl)
    | (apply WPS.nil; exact rfl)
    | (apply WP.cond_t; exact rfl)
    | (apply WP.cond_f; exact rfl)
    | apply WP.skip
    | apply WP.exit
    | (apply WP.ret; refine ⟨.inr rfl, ?_⟩; refine ⟨_, rfl, ?_⟩)
    | apply WP.block)
  all_goals exact ⟨_, rfl, fun _ => trivial⟩

set_option maxHeartbeats 4000000 in
theorem f151 (k : Nat) (hk : 308 ≤ k) (s : GStamp) (hs : s.origin.length ≤ 100) : ∃ d H', pcall E0 (k + 1) 151 [.agg (encSt s)] [] = some (.ret d, H') ∧ IsN d := by
  obtain ⟨k', rfl⟩ : ∃ k', k = k' + 1 := ⟨k - 1, by omega⟩
  refine pcall_ret (fn := Tryz.f151) (Q := fun d H' => IsN d) rfl rfl rfl rfl ?_
  rw [of_fnT]
  repeat' (first
    | apply WP.seq
    | apply WP.reg
    | (apply WPS.mv; exact .inl rfl; exact rfl; exact rfl; decide; (conv => lhs; whnf); exact rfl; decide)
    | (apply WPS.mv; exact .inr rfl; exact rfl; exact rfl; decide; (conv => lhs; whnf); exact rfl; decide)
    | (apply WPS.cmp; exact rfl; exact rfl; exact rfl; exact rfl; exact rfl; decide; rintro (_ | _) hb)
    | (apply WPS.idx; exact rfl; exact rfl; exact rfl; exact rfl; exact rfl; exact rfl; exact rfl; decide; (first | omega | (simp only [decide_eq_true_eq, decide_eq_false_iff_not, IntKind.min, IntKind.max, IntKind.bits, IntKind.signed, List.length_map, in64] at *; omega)); (first | omega | (simp only [decide_eq_true_eq, decide_eq_false_iff_not, IntKind.min, IntKind.max, IntKind.bits, IntKind.signed, List.length_map, in64] at *; omega)); refine fun ch hch => ?_)
    | (apply WPS.idxK; exact rfl; exact rfl; exact rfl; exact rfl; exact rfl; exact rfl; exact rfl; exact rfl; decide; exact fun _ => rfl; (first | omega | (simp only [decide_eq_true_eq, decide_eq_false_iff_not, IntKind.min, IntKind.max, IntKind.bits, IntKind.signed, List.length_map, in64] at *; omega)); assumption)
    | (apply WPS.idxA; exact rfl; exact rfl; exact rfl; exact rfl; exact rfl; exact rfl; exact rfl; exact rfl; decide; exact fun _ => rfl; (first | omega | (simp only [decide_eq_true_eq, decide_eq_false_iff_not, IntKind.min, IntKind.max, IntKind.bits, IntKind.signed, List.length_map, in64] at *; omega)); (first | omega | (simp only [decide_eq_true_eq, decide_eq_false_iff_not, IntKind.min, IntKind.max, IntKind.bits, IntKind.signed, List.length_map, in64] at *; omega)); refine fun a ha => ?_)
    | (apply WPS.num; exact rfl; exact rfl; exact rfl; exact rfl; exact rfl; decide; exact ⟨by first | omega | (simp only [decide_eq_true_eq, decide_eq_false_iff_not, IntKind.min, IntKind.max, IntKind.bits, IntKind.signed, List.length_map, in64] at *; omega), by first | omega | (simp only [decide_eq_true_eq, decide_eq_false_iff_not, IntKind.min, IntKind.max, IntKind.bits, IntKind.signed, List.length_map, in64] at *; omega)⟩)
    | (apply WPS.ask (g := 142); exact rfl; exact rfl; exact rfl; exact rfl; exact rfl; exact rfl; exact rfl; exact rfl; exact rfl; decide; exact (f142 _ _); exact fun d h => ⟨plain_isB h, by obtain ⟨b, rfl, _⟩ := h; rfl⟩; rintro _ ⟨(_ | _), rfl, hp⟩)
    | (apply WPS.ask (g := 143); exact rfl; exact rfl; exact rfl; exact rfl; exact rfl; exact rfl; exact rfl; exact rfl; exact rfl; decide; exact (f143 _ (by omega) _ hs); exact fun d h => ⟨plain_isB h, by obtain ⟨b, rfl, _⟩ := h; rfl⟩; rintro _ ⟨(_ | _), rfl, hp⟩)
    | (apply WPS.val; exact rfl; exact rfl; exact rfl; exact rfl; (conv => lhs; whnf); exact rfl; decide)
    | (apply WPS.pure; exact rfl; exact rfl; exact rfl; exact rfl; exact rfl; decide)
    | (apply WPS.eff; exact rfl; exact rfl; exact rfl; exact rfl; exact rfl; exact rfl; decide)
    | (apply WPS.eff0; exact rfl; exact rfl; exact rfl; exact rfl; exact rfl; exact rfl)
    | (apply WPS.skip; exact rfl; exact rfl; decide)
    | (apply WPS.skip0; exact rfl; exact rfl)
    | (apply WPS.nil; exact rfl)
    | (apply WP.cond_t; exact rfl)
    | (apply WP.cond_f; exact rfl)
    | apply WP.skip
    | apply WP.exit
    | (apply WP.ret; refine ⟨.inr rfl, ?_⟩; refine ⟨_, rfl, ?_⟩)
    | apply WP.block)
  all_goals exact ⟨_, rfl, by decide, by decide⟩
end Go.Cv
