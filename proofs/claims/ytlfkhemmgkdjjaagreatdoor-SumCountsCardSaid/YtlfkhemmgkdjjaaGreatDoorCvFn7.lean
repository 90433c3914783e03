/- Sums: they stop at the greatest number. -/
import Derived.Test.YtlfkhemmgkdjjaaGreatDoorCvFn6
set_option maxRecDepth 100000
set_option linter.unusedVariables false
set_option linter.unusedSimpArgs false
namespace Go.Cv
open Go.Proofs
attribute [local irreducible] WP WPS WPO

/-! ### The plain law -/
def sat (x : Int) : Int := if x ≤ 9223372036854775807 then x else 9223372036854775807
def tot (c : GRow → Int) (l : List GRow) : Int := l.foldl (fun x r => sat (x + c r)) 0
def sumC (c : GRow → Int) (l : List GRow) : Int := (l.map c).sum

theorem tot_sum (c : GRow → Int) (hc : ∀ r, 1 ≤ c r ∧ c r ≤ 9223372036854775807) (l : List GRow) : tot c l = sat (sumC c l) ∧ l.length ≤ sumC c l := by
  have key : ∀ (l : List GRow) (x : Int), 0 ≤ x → l.foldl (fun x r => sat (x + c r)) (sat x) = sat (x + sumC c l) ∧ (l.length : Int) ≤ sumC c l := by
    intro l
    induction l with
    | nil => intro x hx; simp [sumC]
    | cons r l ih =>
      intro x hx
      have hr := hc r
      have h1 : sat (sat x + c r) = sat (x + c r) := by unfold sat; split <;> split <;> (try split) <;> omega
      have h2 := ih (x + c r) (by omega)
      have h3 : sumC c (r :: l) = c r + sumC c l := by simp [sumC]
      simp only [List.foldl_cons, h1, h2.1, h3, List.length_cons]
      refine ⟨by rw [Int.add_assoc], ?_⟩
      have := h2.2
      omega
  have := key l 0 (by omega)
  have e : sat 0 = 0 := rfl
  rw [e] at this
  simpa [tot] using this

theorem tot_range (c : GRow → Int) (hc : ∀ r, 1 ≤ c r ∧ c r ≤ 9223372036854775807) (l : List GRow) : 0 ≤ tot c l ∧ tot c l ≤ 9223372036854775807 := by
  have := tot_sum c hc l
  rw [this.1]; unfold sat; split <;> omega

theorem tot_take (c : GRow → Int) (l : List GRow) (i : Nat) (r : GRow) (h : l[i]? = some r) : tot c (l.take (i + 1)) = sat (tot c (l.take i) + c r) := by
  rw [List.take_add_one, h]
  simp [tot]

theorem tot_step (c : GRow → Int) (l : List GRow) (i : Nat) (r : GRow) (h : l[i]? = some r) (x : Int) (hx : c r = x) : sat (tot c (l.take i) + x) = tot c (l.take (i + 1)) := by
  rw [tot_take c l i r h, hx]

theorem wr_over {x : Int} (h : 9223372036854775807 < x ∧ x ≤ 18446744073709551614) : wr .i64 x = x - 18446744073709551616 := by
  have h1 : ¬ (-9223372036854775808 ≤ x ∧ x ≤ 9223372036854775807) := by omega
  simp only [wr, h1, if_false, IntKind.wrap, IntKind.bits, IntKind.signed]
  simp
  omega

theorem at_slotsH {n : Nat} {τ : Nat → D} {H : Heap} (l : List (Nat × D)) (h : holds τ l) : ∃ τ0 H', (⟨fnT n τ, H⟩ : St) = ⟨fnT n (updL τ0 l), H'⟩ := ⟨τ, H, by rw [updL_self τ l h]⟩

/-! ### The functions -/
theorem c66 (k : Nat) (b : Bool) (H : Heap) (m : Nat) : callPure (pcall E0 (k + 1)) true 66 [.bool b] H m = some (.int .i64 (if b then -9223372036854775808 else 9223372036854775807), []) := by
  cases b <;> kernel_rfl

set_option maxHeartbeats 4000000 in
theorem f18 (k : Nat) (hk : 2 ≤ k) (a b : Int) (ha : 0 ≤ a ∧ a ≤ 9223372036854775807) (hb0 : 0 ≤ b ∧ b ≤ 9223372036854775807) : ∃ d H', pcall E0 (k + 1) 18 [.int .i64 a, .int .i64 b] [] = some (.ret d, H') ∧ d = .int .i64 (sat (a + b)) := by
  obtain ⟨k', rfl⟩ : ∃ k', k = k' + 1 := ⟨k - 1, by omega⟩
  refine pcall_ret (fn := Tryz.f18) (Q := fun d H' => d = .int .i64 (sat (a + b))) rfl rfl rfl rfl ?_
  rw [of_fnT]
  by_cases hs : a + b ≤ 9223372036854775807
  · have e : sat (a + b) = a + b := if_pos hs
    rw [e]
    repeat' (first
      | apply WP.seq
      | apply WP.reg
      | (apply WPS.mv; exact .inl rfl; exact rfl; exact rfl; decide; (conv => lhs; whnf); exact rfl; decide)
      | (apply WPS.mv; exact .inr rfl; exact rfl; exact rfl; decide; (conv => lhs; whnf); exact rfl; decide)
      | (apply WPS.cmp; exact rfl; exact rfl; exact rfl; exact rfl; exact rfl; decide; rintro (_ | _) hb)
      | (apply WPS.idx; exact rfl; exact rfl; exact rfl; exact rfl; exact rfl; exact rfl; exact rfl; decide; (first | omega | (simp only [decide_eq_true_eq, decide_eq_false_iff_not, IntKind.min, IntKind.max, IntKind.bits, IntKind.signed, List.length_map, in64] at *; omega)); (first | omega | (simp only [decide_eq_true_eq, decide_eq_false_iff_not, IntKind.min, IntKind.max, IntKind.bits, IntKind.signed, List.length_map, in64] at *; omega)); refine fun ch hch => ?_)
      | (apply WPS.idxK; exact rfl; exact rfl; exact rfl; exact rfl; exact rfl; exact rfl; exact rfl; exact rfl; decide; exact fun _ => rfl; (first | omega | (simp only [decide_eq_true_eq, decide_eq_false_iff_not, IntKind.min, IntKind.max, IntKind.bits, IntKind.signed, List.length_map, in64] at *; omega)); assumption)
      | (apply WPS.idxA; exact rfl; exact rfl; exact rfl; exact rfl; exact rfl; exact rfl; exact rfl; exact rfl; decide; exact fun _ => rfl; (first | omega | (simp only [decide_eq_true_eq, decide_eq_false_iff_not, IntKind.min, IntKind.max, IntKind.bits, IntKind.signed, List.length_map, in64] at *; omega)); (first | omega | (simp only [decide_eq_true_eq, decide_eq_false_iff_not, IntKind.min, IntKind.max, IntKind.bits, IntKind.signed, List.length_map, in64] at *; omega)); refine fun a ha => ?_)
      | (apply WPS.num; exact rfl; exact rfl; exact rfl; exact rfl; exact rfl; decide; exact ⟨by first | omega | (simp only [decide_eq_true_eq, decide_eq_false_iff_not, IntKind.min, IntKind.max, IntKind.bits, IntKind.signed, List.length_map, in64] at *; omega), by first | omega | (simp only [decide_eq_true_eq, decide_eq_false_iff_not, IntKind.min, IntKind.max, IntKind.bits, IntKind.signed, List.length_map, in64] at *; omega)⟩)
      | (apply WPS.askL (g := 66); exact rfl; exact rfl; exact rfl; exact rfl; exact rfl; exact rfl; exact rfl; decide; exact c66 _ _ _ _)
      | (apply WPS.val; exact rfl; exact rfl; exact rfl; exact rfl; (conv => lhs; whnf); exact rfl; decide)
      | (apply WPS.pure; exact rfl; exact rfl; exact rfl; exact rfl; exact rfl; decide)
      | (apply WPS.eff; exact rfl; exact rfl; exact rfl; exact rfl; exact rfl; exact rfl; decide)
      | (apply WPS.eff0; exact rfl; exact rfl; exact rfl; exact rfl; exact rfl; exact rfl)
      | (apply WPS.skip; exact rfl; exact rfl; decide)
      | (apply WPS.skip0; exact rfl; exact rfl)
      | (apply WPS.nil; exact rfl)
      | (apply WP.cond_t; exact rfl)
      | (apply WP.cond_f; exact rfl)
      | apply WP.skip
      | apply WP.exit
      | (apply WP.ret; refine ⟨.inr rfl, ?_⟩; refine ⟨_, rfl, ?_⟩)
      | apply WP.block)
    all_goals (first
      | exact rfl
      | (exfalso; simp at *; done)
      | (exfalso; simp at *; omega)
      | (exfalso; simp only [decide_eq_true_eq, decide_eq_false_iff_not] at *; omega))
  · have e : sat (a + b) = 9223372036854775807 := if_neg hs
    rw [e]
    repeat' (first
      | apply WP.seq
      | apply WP.reg
      | (apply WPS.mv; exact .inl rfl; exact rfl; exact rfl; decide; (conv => lhs; whnf); exact rfl; decide)
      | (apply WPS.mv; exact .inr rfl; exact rfl; exact rfl; decide; (conv => lhs; whnf); exact rfl; decide)
      | (apply WPS.cmp; exact rfl; exact rfl; exact rfl; exact rfl; exact rfl; decide; rintro (_ | _) hb)
      | (apply WPS.idx; exact rfl; exact rfl; exact rfl; exact rfl; exact rfl; exact rfl; exact rfl; decide; (first | omega | (simp only [decide_eq_true_eq, decide_eq_false_iff_not, IntKind.min, IntKind.max, IntKind.bits, IntKind.signed, List.length_map, in64] at *; omega)); (first | omega | (simp only [decide_eq_true_eq, decide_eq_false_iff_not, IntKind.min, IntKind.max, IntKind.bits, IntKind.signed, List.length_map, in64] at *; omega)); refine fun ch hch => ?_)
      | (apply WPS.idxK; exact rfl; exact rfl; exact rfl; exact rfl; exact rfl; exact rfl; exact rfl; exact rfl; decide; exact fun _ => rfl; (first | omega | (simp only [decide_eq_true_eq, decide_eq_false_iff_not, IntKind.min, IntKind.max, IntKind.bits, IntKind.signed, List.length_map, in64] at *; omega)); assumption)
      | (apply WPS.idxA; exact rfl; exact rfl; exact rfl; exact rfl; exact rfl; exact rfl; exact rfl; exact rfl; decide; exact fun _ => rfl; (first | omega | (simp only [decide_eq_true_eq, decide_eq_false_iff_not, IntKind.min, IntKind.max, IntKind.bits, IntKind.signed, List.length_map, in64] at *; omega)); (first | omega | (simp only [decide_eq_true_eq, decide_eq_false_iff_not, IntKind.min, IntKind.max, IntKind.bits, IntKind.signed, List.length_map, in64] at *; omega)); refine fun a ha => ?_)
      | (apply WPS.num; exact rfl; exact rfl; exact rfl; exact rfl; exact rfl; decide; exact ⟨by first | omega | (simp only [decide_eq_true_eq, decide_eq_false_iff_not, IntKind.min, IntKind.max, IntKind.bits, IntKind.signed, List.length_map, in64] at *; omega), by first | omega | (simp only [decide_eq_true_eq, decide_eq_false_iff_not, IntKind.min, IntKind.max, IntKind.bits, IntKind.signed, List.length_map, in64] at *; omega)⟩)
      | (apply WPS.askL (g := 66); exact rfl; exact rfl; exact rfl; exact rfl; exact rfl; exact rfl; exact rfl; decide; exact c66 _ _ _ _)
      | (apply WPS.numTo (a + b - 18446744073709551616); exact rfl; exact rfl; exact rfl; exact rfl; exact rfl; decide; exact wr_over ⟨by omega, by omega⟩)
      | (apply WPS.val; exact rfl; exact rfl; exact rfl; exact rfl; (conv => lhs; whnf); exact rfl; decide)
      | (apply WPS.pure; exact rfl; exact rfl; exact rfl; exact rfl; exact rfl; decide)
      | (apply WPS.eff; exact rfl; exact rfl; exact rfl; exact rfl; exact rfl; exact rfl; decide)
      | (apply WPS.eff0; exact rfl; exact rfl; exact rfl; exact rfl; exact rfl; exact rfl)
      | (apply WPS.skip; exact rfl; exact rfl; decide)
      | (apply WPS.skip0; exact rfl; exact rfl)
      | (apply WPS.nil; exact rfl)
      | (apply WP.cond_t; exact rfl)
      | (apply WP.cond_f; exact rfl)
      | apply WP.skip
      | apply WP.exit
      | (apply WP.ret; refine ⟨.inr rfl, ?_⟩; refine ⟨_, rfl, ?_⟩)
      | apply WP.block)
    all_goals (first
      | exact rfl
      | (exfalso; simp at *; done)
      | (exfalso; simp at *; omega)
      | (exfalso; simp only [decide_eq_true_eq, decide_eq_false_iff_not] at *; omega))

theorem c18 (k : Nat) (hk : 2 ≤ k) (a b : Int) (ha : 0 ≤ a ∧ a ≤ 9223372036854775807) (hb0 : 0 ≤ b ∧ b ≤ 9223372036854775807) (H : Heap) (m : Nat) : callPure (pcall E0 (k + 1)) true 18 [.int .i64 a, .int .i64 b] H m = some (.int .i64 (sat (a + b)), []) := by
  obtain ⟨d, H', h, rfl⟩ := f18 k hk a b ha hb0
  exact callPure_of rfl rfl h (plain_int _ _) rfl

/-- A row's count. -/
def goodR (r : GRow) : Prop := fewA r.attrs ∧ ∀ a ∈ r.attrs, a.ok
theorem counts (k : Nat) (hk : 106 ≤ k) : ∃ c : GRow → Int, (∀ r, 1 ≤ c r ∧ c r ≤ 9223372036854775807) ∧ ∀ r, goodR r → ∃ (n : Int) (b : Bool), in64 n ∧ c r = (if b = true ∧ 1 ≤ n then n else 1) ∧ ∀ (H : Heap) (m : Nat), callPure (pcall E0 (k + 1)) true 65 [.slc (r.attrs.map encA), .str [110]] H m = some (.tup [.int .i64 n, .bool b], []) := by
  have h : ∀ r, ∃ x : Int, (1 ≤ x ∧ x ≤ 9223372036854775807) ∧ (goodR r → ∃ (n : Int) (b : Bool), in64 n ∧ x = (if b = true ∧ 1 ≤ n then n else 1) ∧ ∀ (H : Heap) (m : Nat), callPure (pcall E0 (k + 1)) true 65 [.slc (r.attrs.map encA), .str [110]] H m = some (.tup [.int .i64 n, .bool b], [])) := fun r => by
    by_cases hr : goodR r
    · obtain ⟨n, b, hn, hc⟩ := c65 k hk r.attrs hr.1 hr.2 [110]
      refine ⟨if b = true ∧ 1 ≤ n then n else 1, ?_, fun _ => ⟨n, b, hn, rfl, hc⟩⟩
      have := hn.2
      split <;> omega
    · exact ⟨1, by omega, fun h => absurd h hr⟩
  exact ⟨fun r => Classical.choose (h r), fun r => (Classical.choose_spec (h r)).1, fun r => (Classical.choose_spec (h r)).2⟩

set_option maxHeartbeats 8000000 in
theorem f17 (k : Nat) (hk : 300 ≤ k) (c : GRow → Int) (hc : ∀ r, 1 ≤ c r ∧ c r ≤ 9223372036854775807) (hcall : ∀ r, goodR r → ∃ (n : Int) (b : Bool), in64 n ∧ c r = (if b = true ∧ 1 ≤ n then n else 1) ∧ ∀ (H : Heap) (m : Nat), callPure (pcall E0 k) true 65 [.slc (r.attrs.map encA), .str [110]] H m = some (.tup [.int .i64 n, .bool b], []))
    (l : List GRow) (hl : l.length ≤ 70) (hg : ∀ r ∈ l, goodR r) : ∃ d H', pcall E0 (k + 1) 17 [.slc (l.map encR)] [] = some (.ret d, H') ∧ d = .int .i64 (tot c l) := by
  obtain ⟨k', rfl⟩ : ∃ k', k = k' + 1 := ⟨k - 1, by omega⟩
  refine pcall_ret (fn := Tryz.f17) (Q := fun d H' => d = .int .i64 (tot c l)) rfl rfl rfl rfl ?_
  rw [of_fnT]
  repeat' (first
    | apply WP.seq
    | apply WP.reg
    | (apply WPS.mv; exact .inl rfl; exact rfl; exact rfl; decide; (conv => lhs; whnf); exact rfl; decide)
    | (apply WPS.mv; exact .inr rfl; exact rfl; exact rfl; decide; (conv => lhs; whnf); exact rfl; decide)
    | (apply WPS.cmp; exact rfl; exact rfl; exact rfl; exact rfl; exact rfl; decide; rintro (_ | _) hb)
    | (apply WPS.idx; exact rfl; exact rfl; exact rfl; exact rfl; exact rfl; exact rfl; exact rfl; decide; (first | omega | (simp only [decide_eq_true_eq, decide_eq_false_iff_not, IntKind.min, IntKind.max, IntKind.bits, IntKind.signed, List.length_map, in64] at *; omega)); (first | omega | (simp only [decide_eq_true_eq, decide_eq_false_iff_not, IntKind.min, IntKind.max, IntKind.bits, IntKind.signed, List.length_map, in64] at *; omega)); refine fun ch hch => ?_)
    | (apply WPS.idxK; exact rfl; exact rfl; exact rfl; exact rfl; exact rfl; exact rfl; exact rfl; exact rfl; decide; exact fun _ => rfl; (first | omega | (simp only [decide_eq_true_eq, decide_eq_false_iff_not, IntKind.min, IntKind.max, IntKind.bits, IntKind.signed, List.length_map, in64] at *; omega)); assumption)
    | (apply WPS.idxA; exact rfl; exact rfl; exact rfl; exact rfl; exact rfl; exact rfl; exact rfl; exact rfl; decide; exact fun _ => rfl; (first | omega | (simp only [decide_eq_true_eq, decide_eq_false_iff_not, IntKind.min, IntKind.max, IntKind.bits, IntKind.signed, List.length_map, in64] at *; omega)); (first | omega | (simp only [decide_eq_true_eq, decide_eq_false_iff_not, IntKind.min, IntKind.max, IntKind.bits, IntKind.signed, List.length_map, in64] at *; omega)); refine fun a ha => ?_)
    | (apply WPS.num; exact rfl; exact rfl; exact rfl; exact rfl; exact rfl; decide; exact ⟨by first | omega | (simp only [decide_eq_true_eq, decide_eq_false_iff_not, IntKind.min, IntKind.max, IntKind.bits, IntKind.signed, List.length_map, in64] at *; omega), by first | omega | (simp only [decide_eq_true_eq, decide_eq_false_iff_not, IntKind.min, IntKind.max, IntKind.bits, IntKind.signed, List.length_map, in64] at *; omega)⟩)
    | (apply WPS.val; exact rfl; exact rfl; exact rfl; exact rfl; (conv => lhs; whnf); exact rfl; decide)
    | (apply WPS.pure; exact rfl; exact rfl; exact rfl; exact rfl; exact rfl; decide)
    | (apply WPS.eff; exact rfl; exact rfl; exact rfl; exact rfl; exact rfl; exact rfl; decide)
    | (apply WPS.eff0; exact rfl; exact rfl; exact rfl; exact rfl; exact rfl; exact rfl)
    | (apply WPS.skip; exact rfl; exact rfl; decide)
    | (apply WPS.skip0; exact rfl; exact rfl)
    | (apply WPS.nil; exact rfl)
    | (apply WP.cond_t; exact rfl)
    | (apply WP.cond_f; exact rfl)
    | apply WP.skip
    | apply WP.exit
    | (apply WP.ret; refine ⟨.inr rfl, ?_⟩; refine ⟨_, rfl, ?_⟩)
    | apply WP.block)
  refine WP.loop l.length (fun m st => ∃ i : Nat, m = l.length - i ∧ i ≤ l.length ∧ ∃ τ0 H, st = ⟨fnT 31 (updL τ0 [(3, .int .i64 (tot c (l.take i))), (8, .slc (l.map encR)), (9, .int .i64 l.length), (10, .int .i64 i)]), H⟩)
    ?_ (by omega) ?_
  · refine ⟨0, rfl, Nat.zero_le _, ?_⟩
    exact at_slotsH [(3, .int .i64 (tot c (l.take 0))), (8, .slc (l.map encR)), (9, .int .i64 l.length), (10, .int .i64 (0 : Nat))] ⟨rfl, rfl, congrArg (fun x : Nat => D.int .i64 x) (show (l.map encR).length = l.length from List.length_map _), rfl, trivial⟩
  rintro m _ ⟨i, rfl, hi, τ0, H, rfl⟩
  refine ⟨_, reset_fnT (by decide) rfl rfl rfl, ?_⟩
  repeat' (first
    | apply WP.seq
    | apply WP.reg
    | (apply WPS.mv; exact .inl rfl; exact rfl; exact rfl; decide; (conv => lhs; whnf); exact rfl; decide)
    | (apply WPS.mv; exact .inr rfl; exact rfl; exact rfl; decide; (conv => lhs; whnf); exact rfl; decide)
    | (apply WPS.cmp; exact rfl; exact rfl; exact rfl; exact rfl; exact rfl; decide; rintro (_ | _) hb)
    | (apply WPS.idx; exact rfl; exact rfl; exact rfl; exact rfl; exact rfl; exact rfl; exact rfl; decide; (first | omega | (simp only [decide_eq_true_eq, decide_eq_false_iff_not, IntKind.min, IntKind.max, IntKind.bits, IntKind.signed, List.length_map, in64] at *; omega)); (first | omega | (simp only [decide_eq_true_eq, decide_eq_false_iff_not, IntKind.min, IntKind.max, IntKind.bits, IntKind.signed, List.length_map, in64] at *; omega)); refine fun ch hch => ?_)
    | (apply WPS.idxK; exact rfl; exact rfl; exact rfl; exact rfl; exact rfl; exact rfl; exact rfl; exact rfl; decide; exact fun _ => rfl; (first | omega | (simp only [decide_eq_true_eq, decide_eq_false_iff_not, IntKind.min, IntKind.max, IntKind.bits, IntKind.signed, List.length_map, in64] at *; omega)); assumption)
    | (apply WPS.idxA; exact rfl; exact rfl; exact rfl; exact rfl; exact rfl; exact rfl; exact rfl; exact rfl; decide; exact fun _ => rfl; (first | omega | (simp only [decide_eq_true_eq, decide_eq_false_iff_not, IntKind.min, IntKind.max, IntKind.bits, IntKind.signed, List.length_map, in64] at *; omega)); (first | omega | (simp only [decide_eq_true_eq, decide_eq_false_iff_not, IntKind.min, IntKind.max, IntKind.bits, IntKind.signed, List.length_map, in64] at *; omega)); refine fun a ha => ?_)
    | (apply WPS.num; exact rfl; exact rfl; exact rfl; exact rfl; exact rfl; decide; exact ⟨by first | omega | (simp only [decide_eq_true_eq, decide_eq_false_iff_not, IntKind.min, IntKind.max, IntKind.bits, IntKind.signed, List.length_map, in64] at *; omega), by first | omega | (simp only [decide_eq_true_eq, decide_eq_false_iff_not, IntKind.min, IntKind.max, IntKind.bits, IntKind.signed, List.length_map, in64] at *; omega)⟩)
    | (obtain ⟨n, b, hn, hcr, hcl⟩ := hcall a (hg a (List.mem_of_getElem? ha)); rcases b with _ | _ <;> (apply WPS.askL (g := 65); exact rfl; exact rfl; exact rfl; exact rfl; exact rfl; exact rfl; exact rfl; decide; exact hcl _ _))
    | (apply WPS.askL (g := 18); exact rfl; exact rfl; exact rfl; exact rfl; exact rfl; exact rfl; exact rfl; decide; exact c18 _ (by omega) _ _ (tot_range c hc _) (by first | decide | (have h1 := hn.1; have h2 := hn.2; simp only [decide_eq_true_eq, decide_eq_false_iff_not] at *; exact ⟨by omega, by omega⟩)) _ _)
    | (apply WPS.val; exact rfl; exact rfl; exact rfl; exact rfl; (conv => lhs; whnf); exact rfl; decide)
    | (apply WPS.pure; exact rfl; exact rfl; exact rfl; exact rfl; exact rfl; decide)
    | (apply WPS.eff; exact rfl; exact rfl; exact rfl; exact rfl; exact rfl; exact rfl; decide)
    | (apply WPS.eff0; exact rfl; exact rfl; exact rfl; exact rfl; exact rfl; exact rfl)
    | (apply WPS.skip; exact rfl; exact rfl; decide)
    | (apply WPS.skip0; exact rfl; exact rfl)
    | (apply WPS.nil; exact rfl)
    | (apply WP.cond_t; exact rfl)
    | (apply WP.cond_f; exact rfl)
    | apply WP.skip
    | apply WP.exit
    | (apply WP.ret; refine ⟨.inr rfl, ?_⟩; refine ⟨_, rfl, ?_⟩)
    | apply WP.block)
  · simp only [decide_eq_false_iff_not] at hb
    obtain rfl : i = l.length := by omega
    refine congrArg (D.int .i64) ?_
    rw [List.take_length]
  all_goals
    refine thenQ_n ⟨l.length - (i + 1), by first | omega | (simp only [decide_eq_true_eq, decide_eq_false_iff_not, IntKind.min, IntKind.max, IntKind.bits, IntKind.signed, List.length_map, in64] at *; omega), i + 1, rfl, by first | omega | (simp only [decide_eq_true_eq, decide_eq_false_iff_not, IntKind.min, IntKind.max, IntKind.bits, IntKind.signed, List.length_map, in64] at *; omega), ?_⟩
    have hx1 : c a = 1 → sat (tot c (l.take i) + 1) = tot c (l.take (i + 1)) := tot_step c l i a ha 1
    have hxn : c a = n → sat (tot c (l.take i) + n) = tot c (l.take (i + 1)) := tot_step c l i a ha n
    refine at_slotsH [(3, .int .i64 (tot c (l.take (i + 1)))), (8, .slc (l.map encR)), (9, .int .i64 l.length), (10, .int .i64 ((i + 1 : Nat) : Int))] ⟨?_, rfl, rfl, rfl, trivial⟩
    first
      | (refine congrArg (D.int .i64) (hx1 (hcr.trans (if_neg ?_))); first | (simp; done) | (simp only [decide_eq_true_eq, true_and] at *; omega))
      | (refine congrArg (D.int .i64) (hxn (hcr.trans (if_pos ?_))); refine ⟨rfl, ?_⟩; simp only [decide_eq_false_iff_not] at *; omega)

theorem c17 (k : Nat) (hk : 300 ≤ k) (c : GRow → Int) (hc : ∀ r, 1 ≤ c r ∧ c r ≤ 9223372036854775807) (hcall : ∀ r, goodR r → ∃ (n : Int) (b : Bool), in64 n ∧ c r = (if b = true ∧ 1 ≤ n then n else 1) ∧ ∀ (H : Heap) (m : Nat), callPure (pcall E0 k) true 65 [.slc (r.attrs.map encA), .str [110]] H m = some (.tup [.int .i64 n, .bool b], []))
    (l : List GRow) (hl : l.length ≤ 70) (hg : ∀ r ∈ l, goodR r) (H : Heap) (m : Nat) : callPure (pcall E0 (k + 1)) true 17 [.slc (l.map encR)] H m = some (.int .i64 (tot c l), []) := by
  obtain ⟨d, H', h, rfl⟩ := f17 k hk c hc hcall l hl hg
  exact callPure_of rfl rfl h (plain_int _ _) rfl
end Go.Cv
