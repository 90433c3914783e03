/- Looking an attribute up. -/
import Derived.Test.YtlfkhemmgkdjjaaGreatDoorCvFn5
import Derived.Test.YtlfkhemmgkdjjaaGreatDoorCvWs3
set_option maxRecDepth 100000
set_option linter.unusedVariables false
set_option linter.unusedSimpArgs false
namespace Go.Cv
open Go.Proofs

theorem pcall_ret' {k f : Nat} {args : List D} {H : Heap} {fn : Func} {c : Code} (ho : (match E0.orc f with | some o => o args H | none => none) = none) (hc : E0.code f = some fn) (hb : fn.body = some c) (hl : Nat.ble args.length fn.ntmps = true) {Q : D → Heap → Prop}
    (h : WP E0 (pcall E0 k) f k c (fun ex s => (ex = .normal ∨ ex = .ret) ∧ ∃ d, resultsD E0 fn s.T s.H = some d ∧ Q d s.H) ⟨Ts.of fn.ntmps args, H⟩) :
    ∃ d H', pcall E0 (k + 1) f args H = some (.ret d, H') ∧ Q d H' := by
  obtain ⟨ex, s, h1, h2, d, h3, h4⟩ := h
  refine ⟨d, s.H, ?_, h4⟩
  rcases e : E0.orc f with _ | o
  · rcases h2 with rfl | rfl <;> simp only [pcall, e, hc, hb, hl, if_true, h1, h3, Option.map_some]
  · simp only [e] at ho
    rcases h2 with rfl | rfl <;> simp only [pcall, e, ho, hc, hb, hl, if_true, h1, h3, Option.map_some]

theorem blk_n {id : Nat} {W : St → Prop} {Q : Ex → St → Prop} {s : St} (h : W s) : blockQ id (thenQ W Q) .normal s := h

attribute [local irreducible] WP WPS WPO

theorem f210 (k : Nat) (s : List UInt8) : ∃ d H', pcall E0 (k + 1) 210 [.str s] [] = some (.ret d, H') ∧ IsB True d := by
  refine pcall_ret (fn := Tryz.f210) (Q := fun d _ => IsB True d) rfl rfl rfl rfl ?_
  rw [of_fnT]
  repeat' (first
    | apply WP.seq
    | apply WP.reg
    | (apply WPS.mv; exact .inl rfl; exact rfl; exact rfl; decide; (conv => lhs; whnf); exact rfl; decide)
    | (apply WPS.mv; exact .inr rfl; exact rfl; exact rfl; decide; (conv => lhs; whnf); exact rfl; decide)
    | (apply WPS.cmp; exact rfl; exact rfl; exact rfl; exact rfl; exact rfl; decide; rintro (_ | _) hb)
    | (apply WPS.idx; exact rfl; exact rfl; exact rfl; exact rfl; exact rfl; exact rfl; exact rfl; decide; (first | omega | (simp only [decide_eq_true_eq, decide_eq_false_iff_not, IntKind.min, IntKind.max, IntKind.bits, IntKind.signed, List.length_map, in64] at *; omega)); (first | omega | (simp only [decide_eq_true_eq, decide_eq_false_iff_not, IntKind.min, IntKind.max, IntKind.bits, IntKind.signed, List.length_map, in64] at *; omega)); refine fun ch hch => ?_)
    | (apply WPS.idxK; exact rfl; exact rfl; exact rfl; exact rfl; exact rfl; exact rfl; exact rfl; exact rfl; decide; exact fun _ => rfl; (first | omega | (simp only [decide_eq_true_eq, decide_eq_false_iff_not, IntKind.min, IntKind.max, IntKind.bits, IntKind.signed, List.length_map, in64] at *; omega)); assumption)
    | (apply WPS.idxA; exact rfl; exact rfl; exact rfl; exact rfl; exact rfl; exact rfl; exact rfl; exact rfl; decide; exact fun _ => rfl; (first | omega | (simp only [decide_eq_true_eq, decide_eq_false_iff_not, IntKind.min, IntKind.max, IntKind.bits, IntKind.signed, List.length_map, in64] at *; omega)); (first | omega | (simp only [decide_eq_true_eq, decide_eq_false_iff_not, IntKind.min, IntKind.max, IntKind.bits, IntKind.signed, List.length_map, in64] at *; omega)); refine fun a ha => ?_)
    | (apply WPS.num; exact rfl; exact rfl; exact rfl; exact rfl; exact rfl; decide; exact ⟨by first | omega | (simp only [decide_eq_true_eq, decide_eq_false_iff_not, IntKind.min, IntKind.max, IntKind.bits, IntKind.signed, List.length_map, in64] at *; omega), by first | omega | (simp only [decide_eq_true_eq, decide_eq_false_iff_not, IntKind.min, IntKind.max, IntKind.bits, IntKind.signed, List.length_map, in64] at *; omega)⟩)
    | (apply WPS.val; exact rfl; exact rfl; exact rfl; exact rfl; (conv => lhs; whnf); exact rfl; decide)
    | (apply WPS.pure; exact rfl; exact rfl; exact rfl; exact rfl; exact rfl; decide)
    | (apply WPS.eff; exact rfl; exact rfl; exact rfl; exact rfl; exact rfl; exact rfl; decide)
    | (apply WPS.eff0; exact rfl; exact rfl; exact rfl; exact rfl; exact rfl; exact rfl)
    | (apply WPS.skip; exact rfl; exact rfl; decide)
    | (apply WPS.skip0; exact rfl; exact rfl)
    | (apply WPS.nil; exact rfl)
    | (apply WP.cond_t; exact rfl)
    | (apply WP.cond_f; exact rfl)
    | apply WP.skip
    | apply WP.exit
    | (apply WP.ret; refine ⟨.inr rfl, ?_⟩; refine ⟨_, rfl, ?_⟩)
    | apply WP.block)
  all_goals exact ⟨_, rfl, fun _ => trivial⟩

/-- -1, 0, or 1. -/
def IsS (d : D) : Prop := ∃ n : Int, d = .int .i64 n ∧ -1 ≤ n ∧ n ≤ 1
theorem plain_isS {d : D} (h : IsS d) : plainD d := by obtain ⟨b, rfl, _⟩ := h; exact plain_int _ b

set_option maxHeartbeats 4000000 in
theorem f146 (k : Nat) (hk : 2 ≤ k) (s s' : List UInt8) : ∃ d H', pcall E0 (k + 1) 146 [.str s, .str s'] [] = some (.ret d, H') ∧ IsS d := by
  obtain ⟨k', rfl⟩ : ∃ k', k = k' + 1 := ⟨k - 1, by omega⟩
  refine pcall_ret (fn := Tryz.f146) (Q := fun d _ => IsS d) rfl rfl rfl rfl ?_
  rw [of_fnT]
  repeat' (first
    | apply WP.seq
    | apply WP.reg
    | (apply WPS.mv; exact .inl rfl; exact rfl; exact rfl; decide; (conv => lhs; whnf); exact rfl; decide)
    | (apply WPS.mv; exact .inr rfl; exact rfl; exact rfl; decide; (conv => lhs; whnf); exact rfl; decide)
    | (apply WPS.cmp; exact rfl; exact rfl; exact rfl; exact rfl; exact rfl; decide; rintro (_ | _) hb)
    | (apply WPS.idx; exact rfl; exact rfl; exact rfl; exact rfl; exact rfl; exact rfl; exact rfl; decide; (first | omega | (simp only [decide_eq_true_eq, decide_eq_false_iff_not, IntKind.min, IntKind.max, IntKind.bits, IntKind.signed, List.length_map, in64] at *; omega)); (first | omega | (simp only [decide_eq_true_eq, decide_eq_false_iff_not, IntKind.min, IntKind.max, IntKind.bits, IntKind.signed, List.length_map, in64] at *; omega)); refine fun ch hch => ?_)
    | (apply WPS.idxK; exact rfl; exact rfl; exact rfl; exact rfl; exact rfl; exact rfl; exact rfl; exact rfl; decide; exact fun _ => rfl; (first | omega | (simp only [decide_eq_true_eq, decide_eq_false_iff_not, IntKind.min, IntKind.max, IntKind.bits, IntKind.signed, List.length_map, in64] at *; omega)); assumption)
    | (apply WPS.idxA; exact rfl; exact rfl; exact rfl; exact rfl; exact rfl; exact rfl; exact rfl; exact rfl; decide; exact fun _ => rfl; (first | omega | (simp only [decide_eq_true_eq, decide_eq_false_iff_not, IntKind.min, IntKind.max, IntKind.bits, IntKind.signed, List.length_map, in64] at *; omega)); (first | omega | (simp only [decide_eq_true_eq, decide_eq_false_iff_not, IntKind.min, IntKind.max, IntKind.bits, IntKind.signed, List.length_map, in64] at *; omega)); refine fun a ha => ?_)
    | (apply WPS.num; exact rfl; exact rfl; exact rfl; exact rfl; exact rfl; decide; exact ⟨by first | omega | (simp only [decide_eq_true_eq, decide_eq_false_iff_not, IntKind.min, IntKind.max, IntKind.bits, IntKind.signed, List.length_map, in64] at *; omega), by first | omega | (simp only [decide_eq_true_eq, decide_eq_false_iff_not, IntKind.min, IntKind.max, IntKind.bits, IntKind.signed, List.length_map, in64] at *; omega)⟩)
    | (apply WPS.ask (g := 210); exact rfl; exact rfl; exact rfl; exact rfl; exact rfl; exact rfl; exact rfl; exact rfl; exact rfl; decide; exact (f210 _ _); exact fun d h => ⟨plain_isB h, by obtain ⟨b, rfl, _⟩ := h; rfl⟩; rintro _ ⟨(_ | _), rfl, hp⟩)
    | (apply WPS.val; exact rfl; exact rfl; exact rfl; exact rfl; (conv => lhs; whnf); exact rfl; decide)
    | (apply WPS.pure; exact rfl; exact rfl; exact rfl; exact rfl; exact rfl; decide)
    | (apply WPS.eff; exact rfl; exact rfl; exact rfl; exact rfl; exact rfl; exact rfl; decide)
    | (apply WPS.eff0; exact rfl; exact rfl; exact rfl; exact rfl; exact rfl; exact rfl)
    | (apply WPS.skip; exact rfl; exact rfl; decide)
    | (apply WPS.skip0; exact rfl; exact rfl)
    | (apply WPS.nil; exact rfl)
    | (apply WP.cond_t; exact rfl)
    | (apply WP.cond_f; exact rfl)
    | apply WP.skip
    | apply WP.exit
    | (apply WP.ret; refine ⟨.inr rfl, ?_⟩; refine ⟨_, rfl, ?_⟩)
    | apply WP.block)
  all_goals exact ⟨_, rfl, by decide, by decide⟩

set_option maxHeartbeats 4000000 in
theorem f163 (k : Nat) (hk : 4 ≤ k) (a : GAttr) (s : List UInt8) : ∃ d H', pcall E0 (k + 1) 163 [.agg (encA a), .str s] [] = some (.ret d, H') ∧ IsS d := by
  obtain ⟨k', rfl⟩ : ∃ k', k = k' + 1 := ⟨k - 1, by omega⟩
  refine pcall_ret (fn := Tryz.f163) (Q := fun d _ => IsS d) rfl rfl rfl rfl ?_
  rw [of_fnT]
  repeat' (first
    | apply WP.seq
    | apply WP.reg
    | (apply WPS.mv; exact .inl rfl; exact rfl; exact rfl; decide; (conv => lhs; whnf); exact rfl; decide)
    | (apply WPS.mv; exact .inr rfl; exact rfl; exact rfl; decide; (conv => lhs; whnf); exact rfl; decide)
    | (apply WPS.cmp; exact rfl; exact rfl; exact rfl; exact rfl; exact rfl; decide; rintro (_ | _) hb)
    | (apply WPS.idx; exact rfl; exact rfl; exact rfl; exact rfl; exact rfl; exact rfl; exact rfl; decide; (first | omega | (simp only [decide_eq_true_eq, decide_eq_false_iff_not, IntKind.min, IntKind.max, IntKind.bits, IntKind.signed, List.length_map, in64] at *; omega)); (first | omega | (simp only [decide_eq_true_eq, decide_eq_false_iff_not, IntKind.min, IntKind.max, IntKind.bits, IntKind.signed, List.length_map, in64] at *; omega)); refine fun ch hch => ?_)
    | (apply WPS.idxK; exact rfl; exact rfl; exact rfl; exact rfl; exact rfl; exact rfl; exact rfl; exact rfl; decide; exact fun _ => rfl; (first | omega | (simp only [decide_eq_true_eq, decide_eq_false_iff_not, IntKind.min, IntKind.max, IntKind.bits, IntKind.signed, List.length_map, in64] at *; omega)); assumption)
    | (apply WPS.idxA; exact rfl; exact rfl; exact rfl; exact rfl; exact rfl; exact rfl; exact rfl; exact rfl; decide; exact fun _ => rfl; (first | omega | (simp only [decide_eq_true_eq, decide_eq_false_iff_not, IntKind.min, IntKind.max, IntKind.bits, IntKind.signed, List.length_map, in64] at *; omega)); (first | omega | (simp only [decide_eq_true_eq, decide_eq_false_iff_not, IntKind.min, IntKind.max, IntKind.bits, IntKind.signed, List.length_map, in64] at *; omega)); refine fun a ha => ?_)
    | (apply WPS.num; exact rfl; exact rfl; exact rfl; exact rfl; exact rfl; decide; exact ⟨by first | omega | (simp only [decide_eq_true_eq, decide_eq_false_iff_not, IntKind.min, IntKind.max, IntKind.bits, IntKind.signed, List.length_map, in64] at *; omega), by first | omega | (simp only [decide_eq_true_eq, decide_eq_false_iff_not, IntKind.min, IntKind.max, IntKind.bits, IntKind.signed, List.length_map, in64] at *; omega)⟩)
    | (apply WPS.ask (g := 146); exact rfl; exact rfl; exact rfl; exact rfl; exact rfl; exact rfl; exact rfl; exact rfl; exact rfl; decide; exact (f146 _ (by omega) _ _); exact fun d h => ⟨plain_isS h, by obtain ⟨b, rfl, _⟩ := h; rfl⟩; rintro _ ⟨n, rfl, hn⟩)
    | (apply WPS.val; exact rfl; exact rfl; exact rfl; exact rfl; (conv => lhs; whnf); exact rfl; decide)
    | (apply WPS.pure; exact rfl; exact rfl; exact rfl; exact rfl; exact rfl; decide)
    | (apply WPS.eff; exact rfl; exact rfl; exact rfl; exact rfl; exact rfl; exact rfl; decide)
    | (apply WPS.eff0; exact rfl; exact rfl; exact rfl; exact rfl; exact rfl; exact rfl)
    | (apply WPS.skip; exact rfl; exact rfl; decide)
    | (apply WPS.skip0; exact rfl; exact rfl)
    | (apply WPS.nil; exact rfl)
    | (apply WP.cond_t; exact rfl)
    | (apply WP.cond_f; exact rfl)
    | apply WP.skip
    | apply WP.exit
    | (apply WP.ret; refine ⟨.inr rfl, ?_⟩; refine ⟨_, rfl, ?_⟩)
    | apply WP.block)
  all_goals exact ⟨_, rfl, by assumption⟩

/-- A place, and whether it is there. -/
def IsF (n : Nat) (d : D) : Prop := ∃ (i : Int) (b : Bool), d = .tup [.int .i64 i, .bool b] ∧ (b = true → 0 ≤ i ∧ i.toNat < n)

set_option maxHeartbeats 4000000 in
theorem f162 (k : Nat) (hk : 100 ≤ k) (l : List GAttr) (hl : l.length ≤ 40) (s : List UInt8) : ∃ d H', pcall E0 (k + 1) 162 [.slc (l.map encA), .str s, .fn (.func 163) [] []] [] = some (.ret d, H') ∧ IsF l.length d := by
  obtain ⟨k', rfl⟩ : ∃ k', k = k' + 1 := ⟨k - 1, by omega⟩
  refine pcall_ret (fn := Tryz.f162) (Q := fun d _ => IsF l.length d) rfl rfl rfl rfl ?_
  rw [of_fnT]
  repeat' (first
    | apply WP.seq
    | apply WP.reg
    | (apply WPS.mv; exact .inl rfl; exact rfl; exact rfl; decide; (conv => lhs; whnf); exact rfl; decide)
    | (apply WPS.mv; exact .inr rfl; exact rfl; exact rfl; decide; (conv => lhs; whnf); exact rfl; decide)
    | (apply WPS.cmp; exact rfl; exact rfl; exact rfl; exact rfl; exact rfl; decide; rintro (_ | _) hb)
    | (apply WPS.idx; exact rfl; exact rfl; exact rfl; exact rfl; exact rfl; exact rfl; exact rfl; decide; (first | omega | (simp only [decide_eq_true_eq, decide_eq_false_iff_not, IntKind.min, IntKind.max, IntKind.bits, IntKind.signed, List.length_map, in64] at *; omega)); (first | omega | (simp only [decide_eq_true_eq, decide_eq_false_iff_not, IntKind.min, IntKind.max, IntKind.bits, IntKind.signed, List.length_map, in64] at *; omega)); refine fun ch hch => ?_)
    | (apply WPS.idxK; exact rfl; exact rfl; exact rfl; exact rfl; exact rfl; exact rfl; exact rfl; exact rfl; decide; exact fun _ => rfl; (first | omega | (simp only [decide_eq_true_eq, decide_eq_false_iff_not, IntKind.min, IntKind.max, IntKind.bits, IntKind.signed, List.length_map, in64] at *; omega)); assumption)
    | (apply WPS.idxA; exact rfl; exact rfl; exact rfl; exact rfl; exact rfl; exact rfl; exact rfl; exact rfl; decide; exact fun _ => rfl; (first | omega | (simp only [decide_eq_true_eq, decide_eq_false_iff_not, IntKind.min, IntKind.max, IntKind.bits, IntKind.signed, List.length_map, in64] at *; omega)); (first | omega | (simp only [decide_eq_true_eq, decide_eq_false_iff_not, IntKind.min, IntKind.max, IntKind.bits, IntKind.signed, List.length_map, in64] at *; omega)); refine fun a ha => ?_)
    | (apply WPS.num; exact rfl; exact rfl; exact rfl; exact rfl; exact rfl; decide; exact ⟨by first | omega | (simp only [decide_eq_true_eq, decide_eq_false_iff_not, IntKind.min, IntKind.max, IntKind.bits, IntKind.signed, List.length_map, in64] at *; omega), by first | omega | (simp only [decide_eq_true_eq, decide_eq_false_iff_not, IntKind.min, IntKind.max, IntKind.bits, IntKind.signed, List.length_map, in64] at *; omega)⟩)
    | (apply WPS.val; exact rfl; exact rfl; exact rfl; exact rfl; (conv => lhs; whnf); exact rfl; decide)
    | (apply WPS.pure; exact rfl; exact rfl; exact rfl; exact rfl; exact rfl; decide)
    | (apply WPS.eff; exact rfl; exact rfl; exact rfl; exact rfl; exact rfl; exact rfl; decide)
    | (apply WPS.eff0; exact rfl; exact rfl; exact rfl; exact rfl; exact rfl; exact rfl)
    | (apply WPS.skip; exact rfl; exact rfl; decide)
    | (apply WPS.skip0; exact rfl; exact rfl)
    | (apply WPS.nil; exact rfl)
    | (apply WP.cond_t; exact rfl)
    | (apply WP.cond_f; exact rfl)
    | apply WP.skip
    | apply WP.exit
    | (apply WP.ret; refine ⟨.inr rfl, ?_⟩; refine ⟨_, rfl, ?_⟩)
    | apply WP.block)
  refine WP.loop l.length (fun m st => ∃ i j : Nat, m = j - i ∧ i ≤ j ∧ j ≤ l.length ∧ ∃ τ0, st = ⟨fnT 49 (updL τ0 [(0, .slc (l.map encA)), (1, .str s), (2, .fn (.func 163) [] []), (8, .int .i64 l.length), (9, .int .i64 i), (10, .int .i64 j)]), []⟩)
    ?_ (by omega) ?_
  · refine ⟨0, l.length, by omega, by omega, by omega, ?_⟩
    have e : (((l.map encA).length : Nat) : Int) = l.length := by simp
    refine at_slots [(0, .slc (l.map encA)), (1, .str s), (2, .fn (.func 163) [] []), (8, .int .i64 l.length), (9, .int .i64 (0 : Nat)), (10, .int .i64 l.length)] ⟨rfl, rfl, rfl, ?_, rfl, ?_, trivial⟩ rfl
    all_goals exact congrArg (D.int .i64) e
  rintro m _ ⟨i, j, rfl, hij, hj, τ0, rfl⟩
  refine ⟨_, rfl, ?_⟩
  repeat' (first
    | apply WP.seq
    | apply WP.reg
    | (apply WPS.mv; exact .inl rfl; exact rfl; exact rfl; decide; (conv => lhs; whnf); exact rfl; decide)
    | (apply WPS.mv; exact .inr rfl; exact rfl; exact rfl; decide; (conv => lhs; whnf); exact rfl; decide)
    | (apply WPS.cmp; exact rfl; exact rfl; exact rfl; exact rfl; exact rfl; decide; rintro (_ | _) hb)
    | (apply WPS.idx; exact rfl; exact rfl; exact rfl; exact rfl; exact rfl; exact rfl; exact rfl; decide; (first | omega | (simp only [decide_eq_true_eq, decide_eq_false_iff_not, IntKind.min, IntKind.max, IntKind.bits, IntKind.signed, List.length_map, in64] at *; omega)); (first | omega | (simp only [decide_eq_true_eq, decide_eq_false_iff_not, IntKind.min, IntKind.max, IntKind.bits, IntKind.signed, List.length_map, in64] at *; omega)); refine fun ch hch => ?_)
    | (apply WPS.idxK; exact rfl; exact rfl; exact rfl; exact rfl; exact rfl; exact rfl; exact rfl; exact rfl; decide; exact fun _ => rfl; (first | omega | (simp only [decide_eq_true_eq, decide_eq_false_iff_not, IntKind.min, IntKind.max, IntKind.bits, IntKind.signed, List.length_map, in64] at *; omega)); assumption)
    | (apply WPS.idxA; exact rfl; exact rfl; exact rfl; exact rfl; exact rfl; exact rfl; exact rfl; exact rfl; decide; exact fun _ => rfl; (first | omega | (simp only [decide_eq_true_eq, decide_eq_false_iff_not, IntKind.min, IntKind.max, IntKind.bits, IntKind.signed, List.length_map, in64] at *; omega)); (first | omega | (simp only [decide_eq_true_eq, decide_eq_false_iff_not, IntKind.min, IntKind.max, IntKind.bits, IntKind.signed, List.length_map, in64] at *; omega)); refine fun a ha => ?_)
    | (apply WPS.num; exact rfl; exact rfl; exact rfl; exact rfl; exact rfl; decide; exact ⟨by first | omega | (simp only [decide_eq_true_eq, decide_eq_false_iff_not, IntKind.min, IntKind.max, IntKind.bits, IntKind.signed, List.length_map, in64] at *; omega), by first | omega | (simp only [decide_eq_true_eq, decide_eq_false_iff_not, IntKind.min, IntKind.max, IntKind.bits, IntKind.signed, List.length_map, in64] at *; omega)⟩)
    | (apply WPS.half; exact rfl; exact rfl; exact rfl; exact rfl; exact rfl; exact rfl; decide; decide)
    | (apply WPS.ask (g := 163); exact rfl; exact rfl; exact rfl; exact rfl; exact rfl; exact rfl; exact rfl; exact rfl; exact rfl; decide; exact (f163 _ (by omega) a _); exact fun d h => ⟨plain_isS h, by obtain ⟨b, rfl, _⟩ := h; rfl⟩; rintro _ ⟨n, rfl, hn⟩)
    | (apply WPS.val; exact rfl; exact rfl; exact rfl; exact rfl; (conv => lhs; whnf); exact rfl; decide)
    | (apply WPS.pure; exact rfl; exact rfl; exact rfl; exact rfl; exact rfl; decide)
    | (apply WPS.eff; exact rfl; exact rfl; exact rfl; exact rfl; exact rfl; exact rfl; decide)
    | (apply WPS.eff0; exact rfl; exact rfl; exact rfl; exact rfl; exact rfl; exact rfl)
    | (apply WPS.skip; exact rfl; exact rfl; decide)
    | (apply WPS.skip0; exact rfl; exact rfl)
    | (apply WPS.nil; exact rfl)
    | (apply WP.cond_t; exact rfl)
    | (apply WP.cond_f; exact rfl)
    | apply WP.skip
    | apply WP.exit
    | (apply WP.ret; refine ⟨.inr rfl, ?_⟩; refine ⟨_, rfl, ?_⟩)
    | apply WP.block)
  all_goals (first
    | (refine ⟨_, _, rfl, fun h => ?_⟩; first | (simp only [decide_eq_true_eq] at *; omega) | (cases h; done))
    | (refine blk_n ⟨j - ((i + j) / 2 + 1), by first | omega | (simp only [decide_eq_true_eq, decide_eq_false_iff_not, IntKind.min, IntKind.max, IntKind.bits, IntKind.signed, List.length_map, in64] at *; omega), (i + j) / 2 + 1, j, rfl, by first | omega | (simp only [decide_eq_true_eq, decide_eq_false_iff_not, IntKind.min, IntKind.max, IntKind.bits, IntKind.signed, List.length_map, in64] at *; omega), by first | omega | (simp only [decide_eq_true_eq, decide_eq_false_iff_not, IntKind.min, IntKind.max, IntKind.bits, IntKind.signed, List.length_map, in64] at *; omega), ?_⟩
       exact at_slots [(0, .slc (l.map encA)), (1, .str s), (2, .fn (.func 163) [] []), (8, .int .i64 l.length), (9, .int .i64 (((i + j) / 2 + 1 : Nat) : Int)), (10, .int .i64 j)] ⟨rfl, rfl, rfl, rfl, congrArg (D.int .i64) (show ((i : Int) + j) / 2 + 1 = (((i + j) / 2 + 1 : Nat) : Int) by omega), rfl, trivial⟩ rfl)
    | (refine blk_n ⟨(i + j) / 2 - i, by first | omega | (simp only [decide_eq_true_eq, decide_eq_false_iff_not, IntKind.min, IntKind.max, IntKind.bits, IntKind.signed, List.length_map, in64] at *; omega), i, (i + j) / 2, rfl, by first | omega | (simp only [decide_eq_true_eq, decide_eq_false_iff_not, IntKind.min, IntKind.max, IntKind.bits, IntKind.signed, List.length_map, in64] at *; omega), by first | omega | (simp only [decide_eq_true_eq, decide_eq_false_iff_not, IntKind.min, IntKind.max, IntKind.bits, IntKind.signed, List.length_map, in64] at *; omega), ?_⟩
       exact at_slots [(0, .slc (l.map encA)), (1, .str s), (2, .fn (.func 163) [] []), (8, .int .i64 l.length), (9, .int .i64 i), (10, .int .i64 (((i + j) / 2 : Nat) : Int))] ⟨rfl, rfl, rfl, rfl, rfl, congrArg (D.int .i64) (show ((i : Int) + j) / 2 = (((i + j) / 2 : Nat) : Int) by omega), trivial⟩ rfl))

theorem c162 (k : Nat) (hk : 100 ≤ k) (l : List GAttr) (hl : l.length ≤ 40) (s : List UInt8) (H : Heap) (m : Nat) : ∃ (i : Int) (b : Bool), callPure (pcall E0 (k + 1)) true 162 [.slc (l.map encA), .str s, .fn (.func 163) [] []] H m = some (.tup [.int .i64 i, .bool b], []) ∧ (b = true → 0 ≤ i ∧ i.toNat < l.length) := by
  obtain ⟨d, H', h, i, b, rfl, hv⟩ := f162 k hk l hl s
  exact ⟨i, b, callPure_view rfl rfl h rfl rfl rfl, hv⟩

set_option maxHeartbeats 4000000 in
theorem f78 (k : Nat) (hk : 102 ≤ k) (l : List GAttr) (hl : l.length ≤ 40) (s : List UInt8) : ∃ d H', pcall E0 (k + 1) 78 [.slc (l.map encA), .str s] [] = some (.ret d, H') ∧ IsF l.length d := by
  obtain ⟨k', rfl⟩ : ∃ k', k = k' + 1 := ⟨k - 1, by omega⟩
  obtain ⟨i, b, hc, hi⟩ := c162 k' (by omega) l hl s [] 0
  refine pcall_ret (fn := Tryz.f78) (Q := fun d _ => IsF l.length d) rfl rfl rfl rfl ?_
  rw [of_fnT]
  repeat' (first
    | apply WP.seq
    | apply WP.reg
    | (apply WPS.mv; exact .inl rfl; exact rfl; exact rfl; decide; (conv => lhs; whnf); exact rfl; decide)
    | (apply WPS.mv; exact .inr rfl; exact rfl; exact rfl; decide; (conv => lhs; whnf); exact rfl; decide)
    | (apply WPS.cmp; exact rfl; exact rfl; exact rfl; exact rfl; exact rfl; decide; rintro (_ | _) hb)
    | (apply WPS.idx; exact rfl; exact rfl; exact rfl; exact rfl; exact rfl; exact rfl; exact rfl; decide; (first | omega | (simp only [decide_eq_true_eq, decide_eq_false_iff_not, IntKind.min, IntKind.max, IntKind.bits, IntKind.signed, List.length_map, in64] at *; omega)); (first | omega | (simp only [decide_eq_true_eq, decide_eq_false_iff_not, IntKind.min, IntKind.max, IntKind.bits, IntKind.signed, List.length_map, in64] at *; omega)); refine fun ch hch => ?_)
    | (apply WPS.idxK; exact rfl; exact rfl; exact rfl; exact rfl; exact rfl; exact rfl; exact rfl; exact rfl; decide; exact fun _ => rfl; (first | omega | (simp only [decide_eq_true_eq, decide_eq_false_iff_not, IntKind.min, IntKind.max, IntKind.bits, IntKind.signed, List.length_map, in64] at *; omega)); assumption)
    | (apply WPS.idxA; exact rfl; exact rfl; exact rfl; exact rfl; exact rfl; exact rfl; exact rfl; exact rfl; decide; exact fun _ => rfl; (first | omega | (simp only [decide_eq_true_eq, decide_eq_false_iff_not, IntKind.min, IntKind.max, IntKind.bits, IntKind.signed, List.length_map, in64] at *; omega)); (first | omega | (simp only [decide_eq_true_eq, decide_eq_false_iff_not, IntKind.min, IntKind.max, IntKind.bits, IntKind.signed, List.length_map, in64] at *; omega)); refine fun a ha => ?_)
    | (apply WPS.num; exact rfl; exact rfl; exact rfl; exact rfl; exact rfl; decide; exact ⟨by first | omega | (simp only [decide_eq_true_eq, decide_eq_false_iff_not, IntKind.min, IntKind.max, IntKind.bits, IntKind.signed, List.length_map, in64] at *; omega), by first | omega | (simp only [decide_eq_true_eq, decide_eq_false_iff_not, IntKind.min, IntKind.max, IntKind.bits, IntKind.signed, List.length_map, in64] at *; omega)⟩)
    | (apply WPS.askL (g := 162); exact rfl; exact rfl; exact rfl; exact rfl; exact rfl; exact rfl; exact rfl; decide; exact hc)
    | (apply WPS.val; exact rfl; exact rfl; exact rfl; exact rfl; (conv => lhs; whnf); exact rfl; decide)
    | (apply WPS.pure; exact rfl; exact rfl; exact rfl; exact rfl; exact rfl; decide)
    | (apply WPS.eff; exact rfl; exact rfl; exact rfl; exact rfl; exact rfl; exact rfl; decide)
    | (apply WPS.eff0; exact rfl; exact rfl; exact rfl; exact rfl; exact rfl; exact rfl)
    | (apply WPS.skip; exact rfl; exact rfl; decide)
    | (apply WPS.skip0; exact rfl; exact rfl)
    | (apply WPS.nil; exact rfl)
    | (apply WP.cond_t; exact rfl)
    | (apply WP.cond_f; exact rfl)
    | apply WP.skip
    | apply WP.exit
    | (apply WP.ret; refine ⟨.inr rfl, ?_⟩; refine ⟨_, rfl, ?_⟩)
    | apply WP.block)
  exact ⟨i, b, rfl, hi⟩

theorem c78 (k : Nat) (hk : 102 ≤ k) (l : List GAttr) (hl : l.length ≤ 40) (s : List UInt8) (H : Heap) (m : Nat) : ∃ (i : Int) (b : Bool), callPure (pcall E0 (k + 1)) true 78 [.slc (l.map encA), .str s] H m = some (.tup [.int .i64 i, .bool b], []) ∧ (b = true → 0 ≤ i ∧ i.toNat < l.length) := by
  obtain ⟨d, H', h, i, b, rfl, hv⟩ := f78 k hk l hl s
  exact ⟨i, b, callPure_view rfl rfl h rfl rfl rfl, hv⟩

/-- A list cloned. -/
theorem enc64_free (l : List Int) : rowFree (l.map enc64) = true := List.all_eq_true.2 fun x hx => by obtain ⟨b, _, rfl⟩ := List.mem_map.1 hx; rfl
set_option maxHeartbeats 4000000 in
theorem f165 (k : Nat) (n : Int) (l : List Int) (hl : (n :: l).length ≤ 40) : ∃ d H', pcall E0 (k + 1) 165 [.slc ((n :: l).map enc64)] [] = some (.ret d, H') ∧ d = .arr 0 (n :: l).length ∧ H' = [⟨(n :: l).map enc64, 0⟩] := by
  refine pcall_ret' (fn := Tryz.f165) (Q := fun d H' => d = .arr 0 (n :: l).length ∧ H' = [⟨(n :: l).map enc64, 0⟩]) rfl rfl rfl rfl ?_
  rw [of_fnT]
  repeat' (first
    | apply WP.seq
    | apply WP.reg
    | (apply WPS.mv; exact .inl rfl; exact rfl; exact rfl; decide; (conv => lhs; whnf); exact rfl; decide)
    | (apply WPS.mv; exact .inr rfl; exact rfl; exact rfl; decide; (conv => lhs; whnf); exact rfl; decide)
    | (apply WPS.cmp; exact rfl; exact rfl; exact rfl; exact rfl; exact rfl; decide; rintro (_ | _) hb)
    | (apply WPS.idx; exact rfl; exact rfl; exact rfl; exact rfl; exact rfl; exact rfl; exact rfl; decide; (first | omega | (simp only [decide_eq_true_eq, decide_eq_false_iff_not, IntKind.min, IntKind.max, IntKind.bits, IntKind.signed, List.length_map, in64] at *; omega)); (first | omega | (simp only [decide_eq_true_eq, decide_eq_false_iff_not, IntKind.min, IntKind.max, IntKind.bits, IntKind.signed, List.length_map, in64] at *; omega)); refine fun ch hch => ?_)
    | (apply WPS.idxK; exact rfl; exact rfl; exact rfl; exact rfl; exact rfl; exact rfl; exact rfl; exact rfl; decide; exact fun _ => rfl; (first | omega | (simp only [decide_eq_true_eq, decide_eq_false_iff_not, IntKind.min, IntKind.max, IntKind.bits, IntKind.signed, List.length_map, in64] at *; omega)); assumption)
    | (apply WPS.idxA; exact rfl; exact rfl; exact rfl; exact rfl; exact rfl; exact rfl; exact rfl; exact rfl; decide; exact fun _ => rfl; (first | omega | (simp only [decide_eq_true_eq, decide_eq_false_iff_not, IntKind.min, IntKind.max, IntKind.bits, IntKind.signed, List.length_map, in64] at *; omega)); (first | omega | (simp only [decide_eq_true_eq, decide_eq_false_iff_not, IntKind.min, IntKind.max, IntKind.bits, IntKind.signed, List.length_map, in64] at *; omega)); refine fun a ha => ?_)
    | (apply WPS.num; exact rfl; exact rfl; exact rfl; exact rfl; exact rfl; decide; exact ⟨by first | omega | (simp only [decide_eq_true_eq, decide_eq_false_iff_not, IntKind.min, IntKind.max, IntKind.bits, IntKind.signed, List.length_map, in64] at *; omega), by first | omega | (simp only [decide_eq_true_eq, decide_eq_false_iff_not, IntKind.min, IntKind.max, IntKind.bits, IntKind.signed, List.length_map, in64] at *; omega)⟩)
    | (apply WPS.app; exact rfl; exact rfl; exact rfl; exact rfl; exact rfl; exact rfl; exact rfl; exact rfl; exact rfl; exact rfl; exact rfl; decide; exact rfl; exact rfl; exact rfl; exact rfl; exact ⟨by show (0 + ((n :: l).map enc64).length) * 8 ≤ 140737488355328; rw [List.length_map]; omega, by show 0 + ((n :: l).map enc64).length ≤ 9223372036854775807; rw [List.length_map]; omega⟩)
    | (apply WPS.val; exact rfl; exact rfl; exact rfl; exact rfl; (conv => lhs; whnf); exact rfl; decide)
    | (apply WPS.pure; exact rfl; exact rfl; exact rfl; exact rfl; exact rfl; decide)
    | (apply WPS.eff; exact rfl; exact rfl; exact rfl; exact rfl; exact rfl; exact rfl; decide)
    | (apply WPS.eff0; exact rfl; exact rfl; exact rfl; exact rfl; exact rfl; exact rfl)
    | (apply WPS.skip; exact rfl; exact rfl; decide)
    | (apply WPS.skip0; exact rfl; exact rfl)
    | (apply WPS.nil; exact rfl)
    | (apply WP.cond_t; exact rfl)
    | (apply WP.cond_f; exact rfl)
    | apply WP.skip
    | apply WP.exit
    | (apply WP.ret; refine ⟨.inr rfl, ?_⟩; refine ⟨_, rfl, ?_⟩)
    | apply WP.block)
  all_goals first | (cases hb; done) | skip
  refine ⟨?_, rfl⟩
  show D.arr 0 (0 + ((n :: l).map enc64).length) = _
  simp

theorem c165 (k : Nat) (l : List Int) (hl : l.length ≤ 40) (H : Heap) (m : Nat) : callPure (pcall E0 (k + 1)) true 165 [.slc (l.map enc64)] H m = some (.slc (l.map enc64), []) := by
  cases l with
  | nil => kernel_rfl
  | cons n l =>
    obtain ⟨d, H', h, rfl, rfl⟩ := f165 k n l hl
    have : rowFree ((n :: l).map enc64) = true := enc64_free _
    refine callPure_list rfl rfl h ?_ rfl
    show view1 [⟨(n :: l).map enc64, 0⟩] (.arr 0 (n :: l).length) = _
    simp only [view1, List.getElem?_cons_zero, this, List.length_map, beq_self_eq_true, Bool.and_self, if_true]

set_option maxHeartbeats 4000000 in
theorem f164 (k : Nat) (n : Int) (l : List Int) : ∃ d H', pcall E0 (k + 1) 164 [.slc ((n :: l).map enc64)] [] = some (.ret d, H') ∧ d = .slc ((n :: l).map enc64) := by
  refine pcall_ret (fn := Tryz.f164) (Q := fun d H' => d = .slc ((n :: l).map enc64)) rfl rfl rfl rfl ?_
  rw [of_fnT]
  repeat' (first
    | apply WP.seq
    | apply WP.reg
    | (apply WPS.mv; exact .inl rfl; exact rfl; exact rfl; decide; (conv => lhs; whnf); exact rfl; decide)
    | (apply WPS.mv; exact .inr rfl; exact rfl; exact rfl; decide; (conv => lhs; whnf); exact rfl; decide)
    | (apply WPS.cmp; exact rfl; exact rfl; exact rfl; exact rfl; exact rfl; decide; rintro (_ | _) hb)
    | (apply WPS.idx; exact rfl; exact rfl; exact rfl; exact rfl; exact rfl; exact rfl; exact rfl; decide; (first | omega | (simp only [decide_eq_true_eq, decide_eq_false_iff_not, IntKind.min, IntKind.max, IntKind.bits, IntKind.signed, List.length_map, in64] at *; omega)); (first | omega | (simp only [decide_eq_true_eq, decide_eq_false_iff_not, IntKind.min, IntKind.max, IntKind.bits, IntKind.signed, List.length_map, in64] at *; omega)); refine fun ch hch => ?_)
    | (apply WPS.idxK; exact rfl; exact rfl; exact rfl; exact rfl; exact rfl; exact rfl; exact rfl; exact rfl; decide; exact fun _ => rfl; (first | omega | (simp only [decide_eq_true_eq, decide_eq_false_iff_not, IntKind.min, IntKind.max, IntKind.bits, IntKind.signed, List.length_map, in64] at *; omega)); assumption)
    | (apply WPS.idxA; exact rfl; exact rfl; exact rfl; exact rfl; exact rfl; exact rfl; exact rfl; exact rfl; decide; exact fun _ => rfl; (first | omega | (simp only [decide_eq_true_eq, decide_eq_false_iff_not, IntKind.min, IntKind.max, IntKind.bits, IntKind.signed, List.length_map, in64] at *; omega)); (first | omega | (simp only [decide_eq_true_eq, decide_eq_false_iff_not, IntKind.min, IntKind.max, IntKind.bits, IntKind.signed, List.length_map, in64] at *; omega)); refine fun a ha => ?_)
    | (apply WPS.num; exact rfl; exact rfl; exact rfl; exact rfl; exact rfl; decide; exact ⟨by first | omega | (simp only [decide_eq_true_eq, decide_eq_false_iff_not, IntKind.min, IntKind.max, IntKind.bits, IntKind.signed, List.length_map, in64] at *; omega), by first | omega | (simp only [decide_eq_true_eq, decide_eq_false_iff_not, IntKind.min, IntKind.max, IntKind.bits, IntKind.signed, List.length_map, in64] at *; omega)⟩)
    | (apply WPS.clip (xs := n :: l) (enc := enc64); exact rfl; exact rfl; exact rfl; exact rfl; exact rfl; exact rfl; exact rfl; exact rfl; exact fun _ => rfl; exact rfl; decide; exact congrArg (fun x : Nat => (x : Int)) (List.length_map _); exact congrArg (fun x : Nat => (x : Int)) (List.length_map _); exact List.cons_ne_nil _ _)
    | (apply WPS.val; exact rfl; exact rfl; exact rfl; exact rfl; (conv => lhs; whnf); exact rfl; decide)
    | (apply WPS.pure; exact rfl; exact rfl; exact rfl; exact rfl; exact rfl; decide)
    | (apply WPS.eff; exact rfl; exact rfl; exact rfl; exact rfl; exact rfl; exact rfl; decide)
    | (apply WPS.eff0; exact rfl; exact rfl; exact rfl; exact rfl; exact rfl; exact rfl)
    | (apply WPS.skip; exact rfl; exact rfl; decide)
    | (apply WPS.skip0; exact rfl; exact rfl)
    | (apply WPS.nil; exact rfl)
    | (apply WP.cond_t; exact rfl)
    | (apply WP.cond_f; exact rfl)
    | apply WP.skip
    | apply WP.exit
    | (apply WP.ret; refine ⟨.inr rfl, ?_⟩; refine ⟨_, rfl, ?_⟩)
    | apply WP.block)
  rfl

theorem c164 (k : Nat) (l : List Int) (H : Heap) (m : Nat) : callPure (pcall E0 (k + 1)) true 164 [.slc (l.map enc64)] H m = some (.slc (l.map enc64), []) := by
  cases l with
  | nil => kernel_rfl
  | cons n l =>
    obtain ⟨d, H', h, rfl⟩ := f164 k n l
    exact callPure_list rfl rfl h rfl rfl

set_option maxHeartbeats 4000000 in
theorem f79 (k : Nat) (hk : 2 ≤ k) (v : GValue) (hv : v.l.length ≤ 40) : ∃ d H', pcall E0 (k + 1) 79 [.agg (encV v)] [] = some (.ret d, H') ∧ d = .agg (encV v) := by
  obtain ⟨k', rfl⟩ : ∃ k', k = k' + 1 := ⟨k - 1, by omega⟩
  refine pcall_ret (fn := Tryz.f79) (Q := fun d H' => d = .agg (encV v)) rfl rfl rfl rfl ?_
  rw [of_fnT]
  repeat' (first
    | apply WP.seq
    | apply WP.reg
    | (apply WPS.mv; exact .inl rfl; exact rfl; exact rfl; decide; (conv => lhs; whnf); exact rfl; decide)
    | (apply WPS.mv; exact .inr rfl; exact rfl; exact rfl; decide; (conv => lhs; whnf); exact rfl; decide)
    | (apply WPS.cmp; exact rfl; exact rfl; exact rfl; exact rfl; exact rfl; decide; rintro (_ | _) hb)
    | (apply WPS.idx; exact rfl; exact rfl; exact rfl; exact rfl; exact rfl; exact rfl; exact rfl; decide; (first | omega | (simp only [decide_eq_true_eq, decide_eq_false_iff_not, IntKind.min, IntKind.max, IntKind.bits, IntKind.signed, List.length_map, in64] at *; omega)); (first | omega | (simp only [decide_eq_true_eq, decide_eq_false_iff_not, IntKind.min, IntKind.max, IntKind.bits, IntKind.signed, List.length_map, in64] at *; omega)); refine fun ch hch => ?_)
    | (apply WPS.idxK; exact rfl; exact rfl; exact rfl; exact rfl; exact rfl; exact rfl; exact rfl; exact rfl; decide; exact fun _ => rfl; (first | omega | (simp only [decide_eq_true_eq, decide_eq_false_iff_not, IntKind.min, IntKind.max, IntKind.bits, IntKind.signed, List.length_map, in64] at *; omega)); assumption)
    | (apply WPS.idxA; exact rfl; exact rfl; exact rfl; exact rfl; exact rfl; exact rfl; exact rfl; exact rfl; decide; exact fun _ => rfl; (first | omega | (simp only [decide_eq_true_eq, decide_eq_false_iff_not, IntKind.min, IntKind.max, IntKind.bits, IntKind.signed, List.length_map, in64] at *; omega)); (first | omega | (simp only [decide_eq_true_eq, decide_eq_false_iff_not, IntKind.min, IntKind.max, IntKind.bits, IntKind.signed, List.length_map, in64] at *; omega)); refine fun a ha => ?_)
    | (apply WPS.num; exact rfl; exact rfl; exact rfl; exact rfl; exact rfl; decide; exact ⟨by first | omega | (simp only [decide_eq_true_eq, decide_eq_false_iff_not, IntKind.min, IntKind.max, IntKind.bits, IntKind.signed, List.length_map, in64] at *; omega), by first | omega | (simp only [decide_eq_true_eq, decide_eq_false_iff_not, IntKind.min, IntKind.max, IntKind.bits, IntKind.signed, List.length_map, in64] at *; omega)⟩)
    | (apply WPS.askL (g := 165); exact rfl; exact rfl; exact rfl; exact rfl; exact rfl; exact rfl; exact rfl; decide; exact c165 _ v.l hv _ _)
    | (apply WPS.askL (g := 164); exact rfl; exact rfl; exact rfl; exact rfl; exact rfl; exact rfl; exact rfl; decide; exact c164 _ v.l _ _)
    | (apply WPS.val; exact rfl; exact rfl; exact rfl; exact rfl; (conv => lhs; whnf); exact rfl; decide)
    | (apply WPS.pure; exact rfl; exact rfl; exact rfl; exact rfl; exact rfl; decide)
    | (apply WPS.eff; exact rfl; exact rfl; exact rfl; exact rfl; exact rfl; exact rfl; decide)
    | (apply WPS.eff0; exact rfl; exact rfl; exact rfl; exact rfl; exact rfl; exact rfl)
    | (apply WPS.skip; exact rfl; exact rfl; decide)
    | (apply WPS.skip0; exact rfl; exact rfl)
    | (apply WPS.nil; exact rfl)
    | (apply WP.cond_t; exact rfl)
    | (apply WP.cond_f; exact rfl)
    | apply WP.skip
    | apply WP.exit
    | (apply WP.ret; refine ⟨.inr rfl, ?_⟩; refine ⟨_, rfl, ?_⟩)
    | apply WP.block)
  rfl

theorem c79 (k : Nat) (hk : 2 ≤ k) (v : GValue) (hv : v.l.length ≤ 40) (H : Heap) (m : Nat) : callPure (pcall E0 (k + 1)) true 79 [.agg (encV v)] H m = some (.agg (encV v), []) := by
  obtain ⟨d, H', h, rfl⟩ := f79 k hk v hv
  exact callPure_of rfl rfl h ⟨fun _ => rfl, rfl, rfl⟩ rfl

/-- A value, and whether it is there. -/
def IsG (d : D) (H : Heap) : Prop := ∃ (v : GValue) (b : Bool), view H d = some (.tup [.agg (encV v), .bool b]) ∧ in64 v.i

set_option maxHeartbeats 4000000 in
theorem f23 (k : Nat) (hk : 104 ≤ k) (l : List GAttr) (hl : fewA l) (hok : ∀ a ∈ l, a.ok) (s : List UInt8) : ∃ d H', pcall E0 (k + 1) 23 [.slc (l.map encA), .str s] [] = some (.ret d, H') ∧ IsG d H' := by
  obtain ⟨k', rfl⟩ : ∃ k', k = k' + 1 := ⟨k - 1, by omega⟩
  obtain ⟨i, b, hc, hi⟩ := c78 k' (by omega) l hl.1 s [⟨[encV ⟨0, 0, [], []⟩], 0⟩] 1
  refine pcall_ret (fn := Tryz.f23) (Q := fun d H' => IsG d H') rfl rfl rfl rfl ?_
  rw [of_fnT]
  have e1 : ∀ d d' : D, pcall E0 0 0 [] [] = none := fun _ _ => rfl
  rcases b with _ | _
  · skip
    repeat' (first
      | apply WP.seq
      | apply WP.reg
      | (apply WPS.mv; exact .inl rfl; exact rfl; exact rfl; decide; (conv => lhs; whnf); exact rfl; decide)
      | (apply WPS.mv; exact .inr rfl; exact rfl; exact rfl; decide; (conv => lhs; whnf); exact rfl; decide)
      | (apply WPS.cmp; exact rfl; exact rfl; exact rfl; exact rfl; exact rfl; decide; rintro (_ | _) hb)
      | (apply WPS.idx; exact rfl; exact rfl; exact rfl; exact rfl; exact rfl; exact rfl; exact rfl; decide; (first | omega | (simp only [decide_eq_true_eq, decide_eq_false_iff_not, IntKind.min, IntKind.max, IntKind.bits, IntKind.signed, List.length_map, in64] at *; omega)); (first | omega | (simp only [decide_eq_true_eq, decide_eq_false_iff_not, IntKind.min, IntKind.max, IntKind.bits, IntKind.signed, List.length_map, in64] at *; omega)); refine fun ch hch => ?_)
      | (apply WPS.idxK; exact rfl; exact rfl; exact rfl; exact rfl; exact rfl; exact rfl; exact rfl; exact rfl; decide; exact fun _ => rfl; (first | omega | (simp only [decide_eq_true_eq, decide_eq_false_iff_not, IntKind.min, IntKind.max, IntKind.bits, IntKind.signed, List.length_map, in64] at *; omega)); assumption)
      | (apply WPS.idxA; exact rfl; exact rfl; exact rfl; exact rfl; exact rfl; exact rfl; exact rfl; exact rfl; decide; exact fun _ => rfl; (first | omega | (simp only [decide_eq_true_eq, decide_eq_false_iff_not, IntKind.min, IntKind.max, IntKind.bits, IntKind.signed, List.length_map, in64] at *; omega)); (first | omega | (simp only [decide_eq_true_eq, decide_eq_false_iff_not, IntKind.min, IntKind.max, IntKind.bits, IntKind.signed, List.length_map, in64] at *; omega)); refine fun a ha => ?_)
      | (apply WPS.num; exact rfl; exact rfl; exact rfl; exact rfl; exact rfl; decide; exact ⟨by first | omega | (simp only [decide_eq_true_eq, decide_eq_false_iff_not, IntKind.min, IntKind.max, IntKind.bits, IntKind.signed, List.length_map, in64] at *; omega), by first | omega | (simp only [decide_eq_true_eq, decide_eq_false_iff_not, IntKind.min, IntKind.max, IntKind.bits, IntKind.signed, List.length_map, in64] at *; omega)⟩)
      | (apply WPS.askL (g := 78); exact rfl; exact rfl; exact rfl; exact rfl; exact rfl; exact rfl; exact rfl; decide; exact hc)
      | (apply WPS.val; exact rfl; exact rfl; exact rfl; exact rfl; (conv => lhs; whnf); exact rfl; decide)
      | (apply WPS.pure; exact rfl; exact rfl; exact rfl; exact rfl; exact rfl; decide)
      | (apply WPS.eff; exact rfl; exact rfl; exact rfl; exact rfl; exact rfl; exact rfl; decide)
      | (apply WPS.eff0; exact rfl; exact rfl; exact rfl; exact rfl; exact rfl; exact rfl)
      | (apply WPS.skip; exact rfl; exact rfl; decide)
      | (apply WPS.skip0; exact rfl; exact rfl)
      | (apply WPS.nil; exact rfl)
      | (apply WP.cond_t; exact rfl)
      | (apply WP.cond_f; exact rfl)
      | apply WP.skip
      | apply WP.exit
      | (apply WP.ret; refine ⟨.inr rfl, ?_⟩; refine ⟨_, rfl, ?_⟩)
      | apply WP.block)
    exact ⟨⟨0, 0, [], []⟩, false, rfl, by decide, by decide⟩
  · have hi' := hi rfl
    obtain ⟨a, ha⟩ : ∃ a, l[i.toNat]? = some a := ⟨_, List.getElem?_eq_getElem hi'.2⟩
    have hm := List.mem_of_getElem? ha
    repeat' (first
      | apply WP.seq
      | apply WP.reg
      | (apply WPS.mv; exact .inl rfl; exact rfl; exact rfl; decide; (conv => lhs; whnf); exact rfl; decide)
      | (apply WPS.mv; exact .inr rfl; exact rfl; exact rfl; decide; (conv => lhs; whnf); exact rfl; decide)
      | (apply WPS.cmp; exact rfl; exact rfl; exact rfl; exact rfl; exact rfl; decide; rintro (_ | _) hb)
      | (apply WPS.idx; exact rfl; exact rfl; exact rfl; exact rfl; exact rfl; exact rfl; exact rfl; decide; (first | omega | (simp only [decide_eq_true_eq, decide_eq_false_iff_not, IntKind.min, IntKind.max, IntKind.bits, IntKind.signed, List.length_map, in64] at *; omega)); (first | omega | (simp only [decide_eq_true_eq, decide_eq_false_iff_not, IntKind.min, IntKind.max, IntKind.bits, IntKind.signed, List.length_map, in64] at *; omega)); refine fun ch hch => ?_)
      | (apply WPS.idxK; exact rfl; exact rfl; exact rfl; exact rfl; exact rfl; exact rfl; exact rfl; exact rfl; decide; exact fun _ => rfl; (first | omega | (simp only [decide_eq_true_eq, decide_eq_false_iff_not, IntKind.min, IntKind.max, IntKind.bits, IntKind.signed, List.length_map, in64] at *; omega)); assumption)
      | (apply WPS.idxA; exact rfl; exact rfl; exact rfl; exact rfl; exact rfl; exact rfl; exact rfl; exact rfl; decide; exact fun _ => rfl; (first | omega | (simp only [decide_eq_true_eq, decide_eq_false_iff_not, IntKind.min, IntKind.max, IntKind.bits, IntKind.signed, List.length_map, in64] at *; omega)); (first | omega | (simp only [decide_eq_true_eq, decide_eq_false_iff_not, IntKind.min, IntKind.max, IntKind.bits, IntKind.signed, List.length_map, in64] at *; omega)); refine fun a ha => ?_)
      | (apply WPS.num; exact rfl; exact rfl; exact rfl; exact rfl; exact rfl; decide; exact ⟨by first | omega | (simp only [decide_eq_true_eq, decide_eq_false_iff_not, IntKind.min, IntKind.max, IntKind.bits, IntKind.signed, List.length_map, in64] at *; omega), by first | omega | (simp only [decide_eq_true_eq, decide_eq_false_iff_not, IntKind.min, IntKind.max, IntKind.bits, IntKind.signed, List.length_map, in64] at *; omega)⟩)
      | (apply WPS.askL (g := 78); exact rfl; exact rfl; exact rfl; exact rfl; exact rfl; exact rfl; exact rfl; decide; exact hc)
      | (apply WPS.askL (g := 79); exact rfl; exact rfl; exact rfl; exact rfl; exact rfl; exact rfl; exact rfl; decide; exact c79 _ (by omega) a.v (hl.2 _ hm).2.2 _ _)
      | (apply WPS.val; exact rfl; exact rfl; exact rfl; exact rfl; (conv => lhs; whnf); exact rfl; decide)
      | (apply WPS.pure; exact rfl; exact rfl; exact rfl; exact rfl; exact rfl; decide)
      | (apply WPS.eff; exact rfl; exact rfl; exact rfl; exact rfl; exact rfl; exact rfl; decide)
      | (apply WPS.eff0; exact rfl; exact rfl; exact rfl; exact rfl; exact rfl; exact rfl)
      | (apply WPS.skip; exact rfl; exact rfl; decide)
      | (apply WPS.skip0; exact rfl; exact rfl)
      | (apply WPS.nil; exact rfl)
      | (apply WP.cond_t; exact rfl)
      | (apply WP.cond_f; exact rfl)
      | apply WP.skip
      | apply WP.exit
      | (apply WP.ret; refine ⟨.inr rfl, ?_⟩; refine ⟨_, rfl, ?_⟩)
      | apply WP.block)
    exact ⟨a.v, true, rfl, (hok _ hm).2.2.1⟩

theorem c23 (k : Nat) (hk : 104 ≤ k) (l : List GAttr) (hl : fewA l) (hok : ∀ a ∈ l, a.ok) (s : List UInt8) (H : Heap) (m : Nat) : ∃ (v : GValue) (b : Bool), callPure (pcall E0 (k + 1)) true 23 [.slc (l.map encA), .str s] H m = some (.tup [.agg (encV v), .bool b], []) ∧ in64 v.i := by
  obtain ⟨d, H', h, v, b, hv, hi⟩ := f23 k hk l hl hok s
  exact ⟨v, b, callPure_view rfl rfl h hv rfl rfl, hi⟩

/-- A number, and whether it is one. -/
def IsW (d : D) : Prop := ∃ (n : Int) (b : Bool), d = .tup [.int .i64 n, .bool b] ∧ in64 n

set_option maxHeartbeats 4000000 in
theorem f65 (k : Nat) (hk : 106 ≤ k) (l : List GAttr) (hl : fewA l) (hok : ∀ a ∈ l, a.ok) (s : List UInt8) : ∃ d H', pcall E0 (k + 1) 65 [.slc (l.map encA), .str s] [] = some (.ret d, H') ∧ IsW d := by
  obtain ⟨k', rfl⟩ : ∃ k', k = k' + 1 := ⟨k - 1, by omega⟩
  obtain ⟨v, b, hc, hi⟩ := c23 k' (by omega) l hl hok s [] 0
  refine pcall_ret (fn := Tryz.f65) (Q := fun d _ => IsW d) rfl rfl rfl rfl ?_
  rw [of_fnT]
  rcases b with _ | _
  all_goals skip
  repeat' (first
    | apply WP.seq
    | apply WP.reg
    | (apply WPS.mv; exact .inl rfl; exact rfl; exact rfl; decide; (conv => lhs; whnf); exact rfl; decide)
    | (apply WPS.mv; exact .inr rfl; exact rfl; exact rfl; decide; (conv => lhs; whnf); exact rfl; decide)
    | (apply WPS.cmp; exact rfl; exact rfl; exact rfl; exact rfl; exact rfl; decide; rintro (_ | _) hb)
    | (apply WPS.idx; exact rfl; exact rfl; exact rfl; exact rfl; exact rfl; exact rfl; exact rfl; decide; (first | omega | (simp only [decide_eq_true_eq, decide_eq_false_iff_not, IntKind.min, IntKind.max, IntKind.bits, IntKind.signed, List.length_map, in64] at *; omega)); (first | omega | (simp only [decide_eq_true_eq, decide_eq_false_iff_not, IntKind.min, IntKind.max, IntKind.bits, IntKind.signed, List.length_map, in64] at *; omega)); refine fun ch hch => ?_)
    | (apply WPS.idxK; exact rfl; exact rfl; exact rfl; exact rfl; exact rfl; exact rfl; exact rfl; exact rfl; decide; exact fun _ => rfl; (first | omega | (simp only [decide_eq_true_eq, decide_eq_false_iff_not, IntKind.min, IntKind.max, IntKind.bits, IntKind.signed, List.length_map, in64] at *; omega)); assumption)
    | (apply WPS.idxA; exact rfl; exact rfl; exact rfl; exact rfl; exact rfl; exact rfl; exact rfl; exact rfl; decide; exact fun _ => rfl; (first | omega | (simp only [decide_eq_true_eq, decide_eq_false_iff_not, IntKind.min, IntKind.max, IntKind.bits, IntKind.signed, List.length_map, in64] at *; omega)); (first | omega | (simp only [decide_eq_true_eq, decide_eq_false_iff_not, IntKind.min, IntKind.max, IntKind.bits, IntKind.signed, List.length_map, in64] at *; omega)); refine fun a ha => ?_)
    | (apply WPS.num; exact rfl; exact rfl; exact rfl; exact rfl; exact rfl; decide; exact ⟨by first | omega | (simp only [decide_eq_true_eq, decide_eq_false_iff_not, IntKind.min, IntKind.max, IntKind.bits, IntKind.signed, List.length_map, in64] at *; omega), by first | omega | (simp only [decide_eq_true_eq, decide_eq_false_iff_not, IntKind.min, IntKind.max, IntKind.bits, IntKind.signed, List.length_map, in64] at *; omega)⟩)
    | (apply WPS.askL (g := 23); exact rfl; exact rfl; exact rfl; exact rfl; exact rfl; exact rfl; exact rfl; decide; exact hc)
    | (apply WPS.val; exact rfl; exact rfl; exact rfl; exact rfl; (conv => lhs; whnf); exact rfl; decide)
    | (apply WPS.pure; exact rfl; exact rfl; exact rfl; exact rfl; exact rfl; decide)
    | (apply WPS.eff; exact rfl; exact rfl; exact rfl; exact rfl; exact rfl; exact rfl; decide)
    | (apply WPS.eff0; exact rfl; exact rfl; exact rfl; exact rfl; exact rfl; exact rfl)
    | (apply WPS.skip; exact rfl; exact rfl; decide)
    | (apply WPS.skip0; exact rfl; exact rfl)
    | (apply WPS.nil; exact rfl)
    | (apply WP.cond_t; exact rfl)
    | (apply WP.cond_f; exact rfl)
    | apply WP.skip
    | apply WP.exit
    | (apply WP.ret; refine ⟨.inr rfl, ?_⟩; refine ⟨_, rfl, ?_⟩)
    | apply WP.block)
  all_goals (first
    | exact ⟨_, _, rfl, by decide, by decide⟩
    | exact ⟨_, _, rfl, hi⟩)

theorem c65 (k : Nat) (hk : 106 ≤ k) (l : List GAttr) (hl : fewA l) (hok : ∀ a ∈ l, a.ok) (s : List UInt8) : ∃ (n : Int) (b : Bool), in64 n ∧ ∀ (H : Heap) (m : Nat), callPure (pcall E0 (k + 1)) true 65 [.slc (l.map encA), .str s] H m = some (.tup [.int .i64 n, .bool b], []) := by
  obtain ⟨d, H', h, n, b, rfl, hn⟩ := f65 k hk l hl hok s
  exact ⟨n, b, hn, fun H m => callPure_view rfl rfl h rfl rfl rfl⟩
end Go.Cv
