/- The law SumCounts. -/
import Derived.Test.YtlfkhemmgkdjjaaGreatDoorCvFn7
import Derived.Test.YtlfkhemmgkdjjaaGreatDoorCvKnown19
set_option maxRecDepth 100000
set_option linter.unusedVariables false
set_option linter.unusedSimpArgs false
namespace Go.Cv
open Go.Proofs
attribute [local irreducible] WP WPS WPO

theorem c15 (H : Heap) (m : Nat) : callPure (pcall E0 1000) true 15 [] H m = some (.bool true, []) := by
  obtain ⟨H', h⟩ := known19
  exact callPure_of rfl rfl h (plain_bool _) rfl

/-- What the counts of the two parts and of the whole come to. -/
theorem parts (c : GRow → Int) (hc : ∀ r, 1 ≤ c r ∧ c r ≤ 9223372036854775807) (l : List GRow) (k : Nat) :
    let a := tot c (l.take k); let b := tot c (l.drop k); let n := tot c l
    a ≤ n ∧ b ≤ n ∧ (a < 4611686018427387904 → b < 4611686018427387904 → n = a + b ∧ l.length ≤ n ∧ sat (a + b) = n) ∧ 0 ≤ a ∧ 0 ≤ b ∧ a ≤ 9223372036854775807 ∧ b ≤ 9223372036854775807 := by
  intro a b n
  have h1 := tot_sum c hc (l.take k)
  have h2 := tot_sum c hc (l.drop k)
  have h3 := tot_sum c hc l
  have r1 := tot_range c hc (l.take k)
  have r2 := tot_range c hc (l.drop k)
  have r3 := tot_range c hc l
  have hs : sumC c l = sumC c (l.take k) + sumC c (l.drop k) := by
    rw [sumC, sumC, sumC, ← List.sum_append, ← List.map_append, List.take_append_drop]
  have ea : a = sat (sumC c (l.take k)) := h1.1
  have eb : b = sat (sumC c (l.drop k)) := h2.1
  have en : n = sat (sumC c l) := h3.1
  have p1 := h1.2
  have p2 := h2.2
  have p3 := h3.2
  have q1 : 0 ≤ sumC c (l.take k) := by omega
  have q2 : 0 ≤ sumC c (l.drop k) := by omega
  clear_value a b n
  unfold sat at *
  refine ⟨?_, ?_, ?_, ?_, ?_, ?_, ?_⟩
  · split at ea <;> split at en <;> omega
  · split at eb <;> split at en <;> omega
  · intro ha hb
    split at ea <;> split at eb <;> split at en <;> (try split) <;> omega
  · split at ea <;> omega
  · split at eb <;> omega
  · split at ea <;> omega
  · split at eb <;> omega

set_option maxHeartbeats 8000000 in
theorem f3 (l : List GRow) (hok : ∀ r ∈ l, r.ok) (hlen : l.length ≤ maxLen) (at_ : Int) (hat : 0 ≤ at_ ∧ at_ ≤ 255) : ∃ d H', pcall E0 1001 3 [.slc (l.map encR), .int .u8 at_] [] = some (.ret d, H') ∧ d = .bool true := by
  obtain ⟨d16, H16, h16, b16, rfl, hb16⟩ := f16 999 (by omega) l hok
  have c16 : ∀ (H : Heap) (m : Nat), callPure (pcall E0 1000) true 16 [.slc (l.map encR)] H m = some (.bool b16, []) := fun H m => callPure_of rfl rfl h16 (plain_bool _) rfl
  refine pcall_ret (fn := Tryz.f3) (Q := fun d H' => d = .bool true) rfl rfl rfl rfl ?_
  rw [of_fnT]
  rcases b16 with _ | _
  · skip
    repeat' (first
      | apply WP.seq
      | apply WP.reg
      | (apply WPS.mv; exact .inl rfl; exact rfl; exact rfl; decide; (conv => lhs; whnf); exact rfl; decide)
      | (apply WPS.mv; exact .inr rfl; exact rfl; exact rfl; decide; (conv => lhs; whnf); exact rfl; decide)
      | (apply WPS.cmp; exact rfl; exact rfl; exact rfl; exact rfl; exact rfl; decide; rintro (_ | _) hb)
      | (apply WPS.idx; exact rfl; exact rfl; exact rfl; exact rfl; exact rfl; exact rfl; exact rfl; decide; (first | omega | (simp only [decide_eq_true_eq, decide_eq_false_iff_not, IntKind.min, IntKind.max, IntKind.bits, IntKind.signed, List.length_map, in64] at *; omega)); (first | omega | (simp only [decide_eq_true_eq, decide_eq_false_iff_not, IntKind.min, IntKind.max, IntKind.bits, IntKind.signed, List.length_map, in64] at *; omega)); refine fun ch hch => ?_)
      | (apply WPS.idxK; exact rfl; exact rfl; exact rfl; exact rfl; exact rfl; exact rfl; exact rfl; exact rfl; decide; exact fun _ => rfl; (first | omega | (simp only [decide_eq_true_eq, decide_eq_false_iff_not, IntKind.min, IntKind.max, IntKind.bits, IntKind.signed, List.length_map, in64] at *; omega)); assumption)
      | (apply WPS.idxA; exact rfl; exact rfl; exact rfl; exact rfl; exact rfl; exact rfl; exact rfl; exact rfl; decide; exact fun _ => rfl; (first | omega | (simp only [decide_eq_true_eq, decide_eq_false_iff_not, IntKind.min, IntKind.max, IntKind.bits, IntKind.signed, List.length_map, in64] at *; omega)); (first | omega | (simp only [decide_eq_true_eq, decide_eq_false_iff_not, IntKind.min, IntKind.max, IntKind.bits, IntKind.signed, List.length_map, in64] at *; omega)); refine fun a ha => ?_)
      | (apply WPS.num; exact rfl; exact rfl; exact rfl; exact rfl; exact rfl; decide; exact ⟨by first | omega | (simp only [decide_eq_true_eq, decide_eq_false_iff_not, IntKind.min, IntKind.max, IntKind.bits, IntKind.signed, List.length_map, in64] at *; omega), by first | omega | (simp only [decide_eq_true_eq, decide_eq_false_iff_not, IntKind.min, IntKind.max, IntKind.bits, IntKind.signed, List.length_map, in64] at *; omega)⟩)
      | (apply WPS.askL (g := 15); exact rfl; exact rfl; exact rfl; exact rfl; exact rfl; exact rfl; exact rfl; decide; exact c15 _ _)
      | (apply WPS.askL (g := 16); exact rfl; exact rfl; exact rfl; exact rfl; exact rfl; exact rfl; exact rfl; decide; exact c16 _ _)
      | (apply WPS.val; exact rfl; exact rfl; exact rfl; exact rfl; (conv => lhs; whnf); exact rfl; decide)
      | (apply WPS.pure; exact rfl; exact rfl; exact rfl; exact rfl; exact rfl; decide)
      | (apply WPS.eff; exact rfl; exact rfl; exact rfl; exact rfl; exact rfl; exact rfl; decide)
      | (apply WPS.eff0; exact rfl; exact rfl; exact rfl; exact rfl; exact rfl; exact rfl)
      | (apply WPS.skip; exact rfl; exact rfl; decide)
      | (apply WPS.skip0; exact rfl; exact rfl)
      | (apply WPS.nil; exact rfl)
      | (apply WP.cond_t; exact rfl)
      | (apply WP.cond_f; exact rfl)
      | apply WP.skip
      | apply WP.exit
      | (apply WP.ret; refine ⟨.inr rfl, ?_⟩; refine ⟨_, rfl, ?_⟩)
      | apply WP.block)
    all_goals rfl
  obtain ⟨hl, hfew⟩ := hb16 rfl
  obtain ⟨c, hc, hcall⟩ := counts 998 (by omega)
  have hg : ∀ r ∈ l, goodR r := fun r hr => ⟨(hfew r hr).2.2, (hok r hr).2.2.2⟩
  have c17l := c17 999 (by omega) c hc hcall l hl hg
  have c17a : ∀ (k : Nat) (H : Heap) (m : Nat), callPure (pcall E0 1000) true 17 [.slc ((l.take k).map encR)] H m = some (.int .i64 (tot c (l.take k)), []) := fun k H m =>
    c17 999 (by omega) c hc hcall _ (by rw [List.length_take]; omega) (fun r hr => hg r (List.mem_of_mem_take hr)) H m
  have c17b : ∀ (k : Nat) (H : Heap) (m : Nat), callPure (pcall E0 1000) true 17 [.slc ((l.drop k).map encR)] H m = some (.int .i64 (tot c (l.drop k)), []) := fun k H m =>
    c17 999 (by omega) c hc hcall _ (by rw [List.length_drop]; omega) (fun r hr => hg r (List.mem_of_mem_drop hr)) H m
  have key : ∀ k : Nat, ∃ a b n : Int, (∀ la, la = l.take k → ∀ (H : Heap) (m : Nat), callPure (pcall E0 1000) true 17 [.slc (la.map encR)] H m = some (.int .i64 a, [])) ∧ (∀ lb, lb = l.drop k → ∀ (H : Heap) (m : Nat), callPure (pcall E0 1000) true 17 [.slc (lb.map encR)] H m = some (.int .i64 b, [])) ∧
      (∀ (H : Heap) (m : Nat), callPure (pcall E0 1000) true 17 [.slc (l.map encR)] H m = some (.int .i64 n, [])) ∧
      a ≤ n ∧ b ≤ n ∧ (a < 4611686018427387904 → b < 4611686018427387904 → n = a + b ∧ l.length ≤ n ∧ sat (a + b) = n) ∧ 0 ≤ a ∧ 0 ≤ b ∧ a ≤ 9223372036854775807 ∧ b ≤ 9223372036854775807 := fun k =>
    ⟨_, _, _, fun la h => by rw [h]; exact c17a k, fun lb h => by rw [h]; exact c17b k, c17l, parts c hc l k⟩
  repeat' (first
    | apply WP.seq
    | apply WP.reg
    | (apply WPS.mv; exact .inl rfl; exact rfl; exact rfl; decide; (conv => lhs; whnf); exact rfl; decide)
    | (apply WPS.mv; exact .inr rfl; exact rfl; exact rfl; decide; (conv => lhs; whnf); exact rfl; decide)
    | (apply WPS.cmp; exact rfl; exact rfl; exact rfl; exact rfl; exact rfl; decide; rintro (_ | _) hb)
    | (apply WPS.idx; exact rfl; exact rfl; exact rfl; exact rfl; exact rfl; exact rfl; exact rfl; decide; (first | omega | (simp only [decide_eq_true_eq, decide_eq_false_iff_not, IntKind.min, IntKind.max, IntKind.bits, IntKind.signed, List.length_map, in64] at *; omega)); (first | omega | (simp only [decide_eq_true_eq, decide_eq_false_iff_not, IntKind.min, IntKind.max, IntKind.bits, IntKind.signed, List.length_map, in64] at *; omega)); refine fun ch hch => ?_)
    | (apply WPS.idxK; exact rfl; exact rfl; exact rfl; exact rfl; exact rfl; exact rfl; exact rfl; exact rfl; decide; exact fun _ => rfl; (first | omega | (simp only [decide_eq_true_eq, decide_eq_false_iff_not, IntKind.min, IntKind.max, IntKind.bits, IntKind.signed, List.length_map, in64] at *; omega)); assumption)
    | (apply WPS.idxA; exact rfl; exact rfl; exact rfl; exact rfl; exact rfl; exact rfl; exact rfl; exact rfl; decide; exact fun _ => rfl; (first | omega | (simp only [decide_eq_true_eq, decide_eq_false_iff_not, IntKind.min, IntKind.max, IntKind.bits, IntKind.signed, List.length_map, in64] at *; omega)); (first | omega | (simp only [decide_eq_true_eq, decide_eq_false_iff_not, IntKind.min, IntKind.max, IntKind.bits, IntKind.signed, List.length_map, in64] at *; omega)); refine fun a ha => ?_)
    | (apply WPS.num; exact rfl; exact rfl; exact rfl; exact rfl; exact rfl; decide; exact ⟨by first | omega | (simp only [decide_eq_true_eq, decide_eq_false_iff_not, IntKind.min, IntKind.max, IntKind.bits, IntKind.signed, List.length_map, in64] at *; omega), by first | omega | (simp only [decide_eq_true_eq, decide_eq_false_iff_not, IntKind.min, IntKind.max, IntKind.bits, IntKind.signed, List.length_map, in64] at *; omega)⟩)
    | (apply WPS.askL (g := 15); exact rfl; exact rfl; exact rfl; exact rfl; exact rfl; exact rfl; exact rfl; decide; exact c15 _ _)
    | (apply WPS.askL (g := 16); exact rfl; exact rfl; exact rfl; exact rfl; exact rfl; exact rfl; exact rfl; decide; exact c16 _ _)
    | (apply WPS.rem; exact rfl; exact rfl; exact rfl; exact rfl; exact rfl; exact rfl; decide; omega; (first | omega | (simp only [decide_eq_true_eq, decide_eq_false_iff_not, IntKind.min, IntKind.max, IntKind.bits, IntKind.signed, List.length_map, in64] at *; omega)); intro m hm; have hm1 : 0 ≤ m ∧ m ≤ l.length := by subst hm; rw [List.length_map]; exact ⟨Int.emod_nonneg _ (by omega), by have := Int.emod_lt_of_pos at_ (show (0 : Int) < (l.length : Int) + 1 by omega); omega⟩)
    | (apply WPS.val; exact rfl; exact rfl; exact rfl; exact rfl; (conv => lhs; whnf); exact rfl; decide)
    | (apply WPS.pure; exact rfl; exact rfl; exact rfl; exact rfl; exact rfl; decide)
    | (apply WPS.eff; exact rfl; exact rfl; exact rfl; exact rfl; exact rfl; exact rfl; decide)
    | (apply WPS.eff0; exact rfl; exact rfl; exact rfl; exact rfl; exact rfl; exact rfl)
    | (apply WPS.skip; exact rfl; exact rfl; decide)
    | (apply WPS.skip0; exact rfl; exact rfl)
    | (apply WPS.nil; exact rfl)
    | (apply WP.cond_t; exact rfl)
    | (apply WP.cond_f; exact rfl)
    | apply WP.skip
    | apply WP.exit
    | (apply WP.ret; refine ⟨.inr rfl, ?_⟩; refine ⟨_, rfl, ?_⟩)
    | apply WP.block)
  · obtain ⟨a, b, n, ca, cb, cn, h1, h2, h3, h4, h5, h6, h7⟩ := key (Int.toNat 0)
    repeat' (first
      | apply WP.seq
      | apply WP.reg
      | (apply WPS.mv; exact .inl rfl; exact rfl; exact rfl; decide; (conv => lhs; whnf); exact rfl; decide)
      | (apply WPS.mv; exact .inr rfl; exact rfl; exact rfl; decide; (conv => lhs; whnf); exact rfl; decide)
      | (apply WPS.cmp; exact rfl; exact rfl; exact rfl; exact rfl; exact rfl; decide; rintro (_ | _) hb)
      | (apply WPS.idx; exact rfl; exact rfl; exact rfl; exact rfl; exact rfl; exact rfl; exact rfl; decide; (first | omega | (simp only [decide_eq_true_eq, decide_eq_false_iff_not, IntKind.min, IntKind.max, IntKind.bits, IntKind.signed, List.length_map, in64] at *; omega)); (first | omega | (simp only [decide_eq_true_eq, decide_eq_false_iff_not, IntKind.min, IntKind.max, IntKind.bits, IntKind.signed, List.length_map, in64] at *; omega)); refine fun ch hch => ?_)
      | (apply WPS.idxK; exact rfl; exact rfl; exact rfl; exact rfl; exact rfl; exact rfl; exact rfl; exact rfl; decide; exact fun _ => rfl; (first | omega | (simp only [decide_eq_true_eq, decide_eq_false_iff_not, IntKind.min, IntKind.max, IntKind.bits, IntKind.signed, List.length_map, in64] at *; omega)); assumption)
      | (apply WPS.idxA; exact rfl; exact rfl; exact rfl; exact rfl; exact rfl; exact rfl; exact rfl; exact rfl; decide; exact fun _ => rfl; (first | omega | (simp only [decide_eq_true_eq, decide_eq_false_iff_not, IntKind.min, IntKind.max, IntKind.bits, IntKind.signed, List.length_map, in64] at *; omega)); (first | omega | (simp only [decide_eq_true_eq, decide_eq_false_iff_not, IntKind.min, IntKind.max, IntKind.bits, IntKind.signed, List.length_map, in64] at *; omega)); refine fun a ha => ?_)
      | (apply WPS.num; exact rfl; exact rfl; exact rfl; exact rfl; exact rfl; decide; exact ⟨by first | omega | (simp only [decide_eq_true_eq, decide_eq_false_iff_not, IntKind.min, IntKind.max, IntKind.bits, IntKind.signed, List.length_map, in64] at *; omega), by first | omega | (simp only [decide_eq_true_eq, decide_eq_false_iff_not, IntKind.min, IntKind.max, IntKind.bits, IntKind.signed, List.length_map, in64] at *; omega)⟩)
      | (apply WPS.uptoN (xs := l) (enc := encR); exact rfl; exact rfl; exact rfl; exact rfl; exact rfl; exact rfl; exact rfl; exact fun _ => rfl; exact rfl; decide; (first | omega | (simp only [decide_eq_true_eq, decide_eq_false_iff_not, IntKind.min, IntKind.max, IntKind.bits, IntKind.signed, List.length_map, in64] at *; omega)); (first | omega | (simp only [decide_eq_true_eq, decide_eq_false_iff_not, IntKind.min, IntKind.max, IntKind.bits, IntKind.signed, List.length_map, in64] at *; omega)); refine fun la hla => ?_)
      | (apply WPS.fromN (xs := l) (enc := encR); exact rfl; exact rfl; exact rfl; exact rfl; exact rfl; exact rfl; exact rfl; exact fun _ => rfl; exact rfl; decide; (first | omega | (simp only [decide_eq_true_eq, decide_eq_false_iff_not, IntKind.min, IntKind.max, IntKind.bits, IntKind.signed, List.length_map, in64] at *; omega)); (first | omega | (simp only [decide_eq_true_eq, decide_eq_false_iff_not, IntKind.min, IntKind.max, IntKind.bits, IntKind.signed, List.length_map, in64] at *; omega)); refine fun lb hlb => ?_)
      | (apply WPS.askL (g := 17); exact rfl; exact rfl; exact rfl; exact rfl; exact rfl; exact rfl; exact rfl; decide; (first | exact cn _ _ | exact ca _ hla _ _ | exact cb _ hlb _ _))
      | (apply WPS.askL (g := 18); exact rfl; exact rfl; exact rfl; exact rfl; exact rfl; exact rfl; exact rfl; decide; exact c18 _ (by omega) a b ⟨h4, h6⟩ ⟨h5, h7⟩ _ _)
      | (apply WPS.val; exact rfl; exact rfl; exact rfl; exact rfl; (conv => lhs; whnf); exact rfl; decide)
      | (apply WPS.pure; exact rfl; exact rfl; exact rfl; exact rfl; exact rfl; decide)
      | (apply WPS.eff; exact rfl; exact rfl; exact rfl; exact rfl; exact rfl; exact rfl; decide)
      | (apply WPS.eff0; exact rfl; exact rfl; exact rfl; exact rfl; exact rfl; exact rfl)
      | (apply WPS.skip; exact rfl; exact rfl; decide)
      | (apply WPS.skip0; exact rfl; exact rfl)
      | (apply WPS.nil; exact rfl)
      | (apply WP.cond_t; exact rfl)
      | (apply WP.cond_f; exact rfl)
      | apply WP.skip
      | apply WP.exit
      | (apply WP.ret; refine ⟨.inr rfl, ?_⟩; refine ⟨_, rfl, ?_⟩)
      | apply WP.block)
    all_goals (first
      | rfl
      | (exfalso; simp at *; done)
      | (exfalso; simp only [decide_eq_true_eq, decide_eq_false_iff_not, beq_iff_eq, beq_eq_false_iff_ne, ne_eq, List.length_map] at *; omega))
  · obtain ⟨a, b, n, ca, cb, cn, h1, h2, h3, h4, h5, h6, h7⟩ := key (Int.toNat m)
    repeat' (first
      | apply WP.seq
      | apply WP.reg
      | (apply WPS.mv; exact .inl rfl; exact rfl; exact rfl; decide; (conv => lhs; whnf); exact rfl; decide)
      | (apply WPS.mv; exact .inr rfl; exact rfl; exact rfl; decide; (conv => lhs; whnf); exact rfl; decide)
      | (apply WPS.cmp; exact rfl; exact rfl; exact rfl; exact rfl; exact rfl; decide; rintro (_ | _) hb)
      | (apply WPS.idx; exact rfl; exact rfl; exact rfl; exact rfl; exact rfl; exact rfl; exact rfl; decide; (first | omega | (simp only [decide_eq_true_eq, decide_eq_false_iff_not, IntKind.min, IntKind.max, IntKind.bits, IntKind.signed, List.length_map, in64] at *; omega)); (first | omega | (simp only [decide_eq_true_eq, decide_eq_false_iff_not, IntKind.min, IntKind.max, IntKind.bits, IntKind.signed, List.length_map, in64] at *; omega)); refine fun ch hch => ?_)
      | (apply WPS.idxK; exact rfl; exact rfl; exact rfl; exact rfl; exact rfl; exact rfl; exact rfl; exact rfl; decide; exact fun _ => rfl; (first | omega | (simp only [decide_eq_true_eq, decide_eq_false_iff_not, IntKind.min, IntKind.max, IntKind.bits, IntKind.signed, List.length_map, in64] at *; omega)); assumption)
      | (apply WPS.idxA; exact rfl; exact rfl; exact rfl; exact rfl; exact rfl; exact rfl; exact rfl; exact rfl; decide; exact fun _ => rfl; (first | omega | (simp only [decide_eq_true_eq, decide_eq_false_iff_not, IntKind.min, IntKind.max, IntKind.bits, IntKind.signed, List.length_map, in64] at *; omega)); (first | omega | (simp only [decide_eq_true_eq, decide_eq_false_iff_not, IntKind.min, IntKind.max, IntKind.bits, IntKind.signed, List.length_map, in64] at *; omega)); refine fun a ha => ?_)
      | (apply WPS.num; exact rfl; exact rfl; exact rfl; exact rfl; exact rfl; decide; exact ⟨by first | omega | (simp only [decide_eq_true_eq, decide_eq_false_iff_not, IntKind.min, IntKind.max, IntKind.bits, IntKind.signed, List.length_map, in64] at *; omega), by first | omega | (simp only [decide_eq_true_eq, decide_eq_false_iff_not, IntKind.min, IntKind.max, IntKind.bits, IntKind.signed, List.length_map, in64] at *; omega)⟩)
      | (apply WPS.uptoN (xs := l) (enc := encR); exact rfl; exact rfl; exact rfl; exact rfl; exact rfl; exact rfl; exact rfl; exact fun _ => rfl; exact rfl; decide; (first | omega | (simp only [decide_eq_true_eq, decide_eq_false_iff_not, IntKind.min, IntKind.max, IntKind.bits, IntKind.signed, List.length_map, in64] at *; omega)); (first | omega | (simp only [decide_eq_true_eq, decide_eq_false_iff_not, IntKind.min, IntKind.max, IntKind.bits, IntKind.signed, List.length_map, in64] at *; omega)); refine fun la hla => ?_)
      | (apply WPS.fromN (xs := l) (enc := encR); exact rfl; exact rfl; exact rfl; exact rfl; exact rfl; exact rfl; exact rfl; exact fun _ => rfl; exact rfl; decide; (first | omega | (simp only [decide_eq_true_eq, decide_eq_false_iff_not, IntKind.min, IntKind.max, IntKind.bits, IntKind.signed, List.length_map, in64] at *; omega)); (first | omega | (simp only [decide_eq_true_eq, decide_eq_false_iff_not, IntKind.min, IntKind.max, IntKind.bits, IntKind.signed, List.length_map, in64] at *; omega)); refine fun lb hlb => ?_)
      | (apply WPS.askL (g := 17); exact rfl; exact rfl; exact rfl; exact rfl; exact rfl; exact rfl; exact rfl; decide; (first | exact cn _ _ | exact ca _ hla _ _ | exact cb _ hlb _ _))
      | (apply WPS.askL (g := 18); exact rfl; exact rfl; exact rfl; exact rfl; exact rfl; exact rfl; exact rfl; decide; exact c18 _ (by omega) a b ⟨h4, h6⟩ ⟨h5, h7⟩ _ _)
      | (apply WPS.val; exact rfl; exact rfl; exact rfl; exact rfl; (conv => lhs; whnf); exact rfl; decide)
      | (apply WPS.pure; exact rfl; exact rfl; exact rfl; exact rfl; exact rfl; decide)
      | (apply WPS.eff; exact rfl; exact rfl; exact rfl; exact rfl; exact rfl; exact rfl; decide)
      | (apply WPS.eff0; exact rfl; exact rfl; exact rfl; exact rfl; exact rfl; exact rfl)
      | (apply WPS.skip; exact rfl; exact rfl; decide)
      | (apply WPS.skip0; exact rfl; exact rfl)
      | (apply WPS.nil; exact rfl)
      | (apply WP.cond_t; exact rfl)
      | (apply WP.cond_f; exact rfl)
      | apply WP.skip
      | apply WP.exit
      | (apply WP.ret; refine ⟨.inr rfl, ?_⟩; refine ⟨_, rfl, ?_⟩)
      | apply WP.block)
    all_goals (first
      | rfl
      | (exfalso; simp at *; done)
      | (exfalso; simp only [decide_eq_true_eq, decide_eq_false_iff_not, beq_iff_eq, beq_eq_false_iff_ne, ne_eq, List.length_map] at *; omega))
end Go.Cv
