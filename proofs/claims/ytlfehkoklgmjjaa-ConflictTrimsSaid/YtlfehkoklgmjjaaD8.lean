import Derived.Test.YtlfehkoklgmjjaaD7
import Derived.Test.YtlfehkoklgmjjaaEngLS

set_option linter.unusedVariables false
set_option linter.unusedSimpArgs false
set_option maxRecDepth 8000
namespace Go.Proofs.Ytlfehkoklgmjjaa
open Go.Eng
def sConflictTrims : PSpec := lawSpecZ [.sl 32 (.pr .z (.sl 16 .s)), .sl 16 .s, .pr .z .z] [.slice EntT, TxT, .pair (.int .u16) (.int .u16)]
theorem log_ts : ∀ {l : List Ent} {last : Int}, logC last l = 0 → ∀ e ∈ l, 1 ≤ e.1 ∧ e.1 ≤ 1099511627776
  | [], _, _, e, he => (List.not_mem_nil he).elim
  | x :: r, last, h, e, he => by
    obtain ⟨h1, h2, _, _, _, h6⟩ := logC_pos h
    rcases List.mem_cons.1 he with rfl | he
    · exact ⟨h1, h2⟩
    · exact log_ts h6 e he
theorem log_le {l : List Ent} {i : Nat} (h : logC 0 l = 0) : 0 ≤ lastT (l.take i) 0 ∧ lastT (l.take i) 0 ≤ 1099511627776 ∧ (i < l.length → 1 ≤ (l.getD i (0, [])).1 ∧ (l.getD i (0, [])).1 ≤ 1099511627776) := by
  have hm := log_ts h
  refine ⟨?_, ?_, fun hi => hm _ (getD_mem _ hi)⟩
  all_goals
    cases i with
    | zero => simp [lastT]
    | succ i =>
      by_cases hi : i < l.length
      · rw [lastT_at hi]; have := hm _ (getD_mem (0, []) hi); omega
      · by_cases hl : l.length = 0
        · rw [List.eq_nil_of_length_eq_zero hl]; simp [lastT]
        · have hn := hm _ (getD_mem (0, []) (show l.length - 1 < l.length by omega))
          have e := lastT_at (d := 0) (show l.length - 1 < l.length by omega)
          rw [List.take_of_length_le (by omega)] at e ⊢
          omega
theorem bdu16 {n : Int} (h : IntKind.u16.min ≤ n ∧ n ≤ IntKind.u16.max) : 0 ≤ n ∧ n ≤ 65535 := by
  simpa [IntKind.min, IntKind.max, IntKind.signed, IntKind.bits] using h
theorem fConflictTrims : FnOk Try.prog 5 := ⟨_, Try.func5, by decide, rfl⟩
theorem pConflictTrims : PSound Try.prog 5 sConflictTrims := by
  refine psound (T := tab) (S := (spOf [(15, sLight22.spec (lsOf [])), (16, sAwake22.spec (lsOf [])), (17, sOwn22.spec (lsOf [])), (24, sCheck22.spec (lsOf [])), (26, sFirst.spec (lsOf [])), (22, sTrim.spec (lsOf [])), (28, sAdd.spec (lsOf [])), (18, sNote.spec (lsOf []))])) (keep := k5) (by kernel_rfl) tabOk (spCons (pOk pLight22 fLight22 (by decide) lsNil) (spCons (pOk pAwake22 fAwake22 (by decide) lsNil) (spCons (pOk pOwn22 fOwn22 (by decide) lsNil) (spCons (pOk pCheck22 fCheck22 (by decide) lsNil) (spCons (pOk pFirst fFirst (by decide) lsNil) (spCons (pOk pTrim fTrim (by decide) lsNil) (spCons (pOk pAdd fAdd (by decide) lsNil) (spCons (pOk pNote fNote (by decide) lsNil) spNil)))))))) (by kernel_rfl) Try.func5 (by kernel_rfl) (by decide) fun xs hg hp => ?_
  obtain ⟨xs, ks, ⟨a, b⟩, ⟨⟩⟩ := xs
  obtain ⟨⟨hl, hx⟩, ⟨hl2, -⟩, ⟨ha, hb⟩, hg⟩ := hg
  change List Ent at xs
  change List (List UInt8) at ks
  change Int at a
  change Int at b
  change xs.length ≤ _ at hl
  change ks.length ≤ _ at hl2
  have hl := len63 hl
  have hl2 := len63 hl2
  have ha := bdu16 ha
  have hb := bdu16 hb
  obtain ⟨⟨hz1, hz2⟩, -⟩ := hp
  clear hx hg
  change xs.length * 32 ≤ reachBytes at hz1
  have hz2 : ∀ i, i < xs.length → (xs.getD i (0, [])).2.length * 16 ≤ reachBytes := fun i hi => (hz2 _ (getD_mem (0, []) hi)).2.1
  show vfun tab _ k5 Try.f5 [.sl EntT xs, .sl .str ks, .agg [.i .u16 a, .i .u16 b]] [] _
  refine Ev.out ?_
  repeat' (first | ((with_reducible refine Ev.mk ?_); conv => whnf) | (with_reducible refine And.intro ?_ ?_) | (intro h))
  all_goals (try simp only [decide_eq_true_eq, decide_eq_false_iff_not, beq_iff_eq, bne_iff_ne, beq_eq_false_iff_ne, bne_eq_false_iff_eq, Int.toNat_natCast, ge_iff_le, gt_iff_lt, Bool.not_eq_true', Bool.not_eq_false', Int.not_lt, Int.not_le, ne_eq] at *)
  all_goals (try dsimp only [Ty.den, Ty.dflt, EntT, sOwn22, sCheck22, sFirst, sTrim, sNote, sAdd, sLight22] at *)
  all_goals (try simp only [eq4, ne4, eq3, ne3, eq2, ne2, Prod.eta, List.length_cons, List.length_nil, List.length_append, Nat.zero_add] at *)
  all_goals (try simp (disch := omega) only [wrap64] at *)
  all_goals try first | exact leafDraw (by kernel_rfl) | exact Leaf.mk trivial | (refine Leaf.mk ?_; omega) | (refine Leaf.mk ?_; unfold maxLen; omega)
  all_goals try exact Leaf.mk rfl
  · refine Leaf.mk (show xs.length * 32 ≤ 140737488355328 ∧ ∀ i, i < xs.length → (xs.getD i (0, [])).2.length * 16 ≤ 140737488355328 from ⟨?_, fun i hi => ?_⟩)
    · unfold reachBytes at hz1; omega
    · have := hz2 i hi; unfold reachBytes at this; omega
  all_goals
    obtain ⟨h30, h20⟩ := light22_of ‹light22 xs = true›
  · exact Leaf.mk (show xs.length ≤ 1000 by omega)
  refine LoopVC.weak [(.slot 14, .nil 9 .str)] (fun i : Nat => [(15, .i .i64 i)]) (fun i => [(0, .arr 9 .str ((ks.take i).foldl add []))]) (fun i => i ≤ ks.length) (fun i => ks.length - i) 0 (Ev.mk ?_)
  (conv => whnf)
  refine ⟨Leaf.mk rfl, Leaf.mk ?_, ?_⟩
  · omega
  intro i hi
  have hf := fold_len (ks.take i)
  rw [List.length_take] at hf
  clear hz1 hz2
  repeat' (first | ((with_reducible refine Ev.mk ?_); conv => whnf) | (with_reducible refine And.intro ?_ ?_) | (intro h))
  all_goals (try simp only [decide_eq_true_eq, decide_eq_false_iff_not, beq_iff_eq, bne_iff_ne, beq_eq_false_iff_ne, bne_eq_false_iff_eq, Int.toNat_natCast, ge_iff_le, gt_iff_lt, Bool.not_eq_true', Bool.not_eq_false', Int.not_lt, Int.not_le, ne_eq] at *)
  all_goals (try dsimp only [Ty.den, Ty.dflt, EntT, sOwn22, sCheck22, sFirst, sTrim, sNote, sAdd, sLight22] at *)
  all_goals (try simp only [eq4, ne4, eq3, ne3, eq2, ne2, Prod.eta, List.length_cons, List.length_nil, List.length_append, Nat.zero_add] at *)
  all_goals (try simp (disch := omega) only [wrap64] at *)
  all_goals try first | exact leafDraw (by kernel_rfl) | exact Leaf.mk trivial | (refine Leaf.mk ?_; omega) | (refine Leaf.mk ?_; unfold maxLen; omega)
  · refine Leaf.mk ⟨i + 1, ?_, by omega, by omega⟩
    rw [foldl_at [] (by omega)]; rfl
  rw [List.take_of_length_le (show ks.length ≤ i by omega)] at hf ⊢
  have hc : logC 0 xs = 0 := ‹logC 0 xs = 0›
  refine LoopVC.on (fun i : Nat => [(17, .i .i64 i), (16, .i .i64 (lastT (xs.take i) 0 + 1))]) (fun _ => []) (fun i => i ≤ xs.length) (fun i => xs.length - i) 0 rfl (by omega) ?_
  intro i hi
  have hle := log_le hc (i := i)
  repeat' (first | ((with_reducible refine Ev.mk ?_); conv => whnf) | (with_reducible refine And.intro ?_ ?_) | (intro h))
  all_goals (try simp only [decide_eq_true_eq, decide_eq_false_iff_not, beq_iff_eq, bne_iff_ne, beq_eq_false_iff_ne, bne_eq_false_iff_eq, Int.toNat_natCast, ge_iff_le, gt_iff_lt, Bool.not_eq_true', Bool.not_eq_false', Int.not_lt, Int.not_le, ne_eq] at *)
  all_goals (try dsimp only [Ty.den, Ty.dflt, EntT, sOwn22, sCheck22, sFirst, sTrim, sNote, sAdd, sLight22] at *)
  all_goals (try simp only [eq4, ne4, eq3, ne3, eq2, ne2, Prod.eta, List.length_cons, List.length_nil, List.length_append, Nat.zero_add] at *)
  all_goals (try simp (disch := omega) only [wrap64] at *)
  all_goals try first | exact leafDraw (by kernel_rfl) | exact Leaf.mk trivial | (refine Leaf.mk ?_; omega) | (refine Leaf.mk ?_; unfold maxLen; omega)
  all_goals first
    | exact Leaf.mk rfl
    | exact Leaf.mk (show xs.length ≤ 1000 by omega)
    | exact Leaf.mk (show ((ks.foldl add []).length ≤ 1000) by omega)
    | exact Leaf.mk (show xs.length ≤ 1000 ∧ (ks.foldl add []).length ≤ 1000 by omega)
    | (refine Leaf.mk ⟨i + 1, ?_, by omega, by omega⟩
       rw [lastT_at (by omega)]; rfl)
    | (have hT : lastT xs 0 = lastT (xs.take i) 0 := by rw [List.take_of_length_le (by omega)]
       have hN := law_note (ks := ks.foldl add []) (t := lastT (xs.take i) 0 + 1) hc (by omega) (by omega) (by omega) (fold_rising ks)
       exact absurd hN h)
    | (have hT : xs.take i = xs := List.take_of_length_le (by omega)
       have hL := law_trims (to := a) (start := a + b) (by omega) ks hc
       simp only [hL.1, hL.2, hT] at *
       exact absurd trivial h)
def sConflictSecond : PSpec := lawSpecZ [.sl 32 (.pr .z (.sl 16 .s)), .pr (.sl 16 .s) (.sl 16 .s), .s] [.slice EntT, .pair TxT TxT, .str]
theorem fConflictSecond : FnOk Try.prog 6 := ⟨_, Try.func6, by decide, rfl⟩
theorem pConflictSecond : PSound Try.prog 6 sConflictSecond := by
  refine psound (T := tab) (S := (spOf [(15, sLight22.spec (lsOf [])), (16, sAwake22.spec (lsOf [])), (17, sOwn22.spec (lsOf [])), (24, sCheck22.spec (lsOf [])), (26, sFirst.spec (lsOf [])), (28, sAdd.spec (lsOf [])), (18, sNote.spec (lsOf []))])) (keep := k6) (by kernel_rfl) tabOk (spCons (pOk pLight22 fLight22 (by decide) lsNil) (spCons (pOk pAwake22 fAwake22 (by decide) lsNil) (spCons (pOk pOwn22 fOwn22 (by decide) lsNil) (spCons (pOk pCheck22 fCheck22 (by decide) lsNil) (spCons (pOk pFirst fFirst (by decide) lsNil) (spCons (pOk pAdd fAdd (by decide) lsNil) (spCons (pOk pNote fNote (by decide) lsNil) spNil))))))) (by kernel_rfl) Try.func6 (by kernel_rfl) (by decide) fun xs hg hp => ?_
  obtain ⟨xs, ⟨ax, bx⟩, k, ⟨⟩⟩ := xs
  obtain ⟨⟨hl, hx⟩, ⟨⟨hl2, -⟩, ⟨hl3, -⟩⟩, hg⟩ := hg
  change List Ent at xs
  change List (List UInt8) at ax
  change List (List UInt8) at bx
  change List UInt8 at k
  change xs.length ≤ _ at hl
  change ax.length ≤ _ at hl2
  change bx.length ≤ _ at hl3
  have hl := len63 hl
  have hl2 := len63 hl2
  have hl3 := len63 hl3
  obtain ⟨⟨hz1, hz2⟩, -⟩ := hp
  clear hx hg
  change xs.length * 32 ≤ reachBytes at hz1
  have hz2 : ∀ i, i < xs.length → (xs.getD i (0, [])).2.length * 16 ≤ reachBytes := fun i hi => (hz2 _ (getD_mem (0, []) hi)).2.1
  show vfun tab _ k6 Try.f6 [.sl EntT xs, .agg [.sl .str ax, .sl .str bx], .s k] [] _
  refine Ev.out ?_
  repeat' (first | ((with_reducible refine Ev.mk ?_); conv => whnf) | (with_reducible refine And.intro ?_ ?_) | (intro h))
  all_goals (try simp only [decide_eq_true_eq, decide_eq_false_iff_not, beq_iff_eq, bne_iff_ne, beq_eq_false_iff_ne, bne_eq_false_iff_eq, Int.toNat_natCast, ge_iff_le, gt_iff_lt, Bool.not_eq_true', Bool.not_eq_false', Int.not_lt, Int.not_le, ne_eq] at *)
  all_goals (try dsimp only [Ty.den, Ty.dflt, EntT, sOwn22, sCheck22, sFirst, sTrim, sNote, sAdd, sLight22] at *)
  all_goals (try simp only [eq4, ne4, eq3, ne3, eq2, ne2, Prod.eta, List.length_cons, List.length_nil, List.length_append, Nat.zero_add] at *)
  all_goals (try simp (disch := omega) only [wrap64] at *)
  all_goals try first | exact leafDraw (by kernel_rfl) | exact Leaf.mk trivial | (refine Leaf.mk ?_; omega) | (refine Leaf.mk ?_; unfold maxLen; omega)
  all_goals try exact Leaf.mk rfl
  · refine Leaf.mk (show xs.length * 32 ≤ 140737488355328 ∧ ∀ i, i < xs.length → (xs.getD i (0, [])).2.length * 16 ≤ 140737488355328 from ⟨?_, fun i hi => ?_⟩)
    · unfold reachBytes at hz1; omega
    · have := hz2 i hi; unfold reachBytes at this; omega
  obtain ⟨h30, h20⟩ := light22_of ‹light22 xs = true›
  have hc : logC 0 xs = 0 := h
  refine LoopVC.on (fun i : Nat => [(11, .i .i64 i), (10, .i .i64 (lastT (xs.take i) 0))]) (fun _ => []) (fun i => i ≤ xs.length) (fun i => xs.length - i) 0 rfl (by omega) ?_
  intro i hi
  have hle := log_le hc (i := i)
  clear hz1 hz2
  repeat' (first | ((with_reducible refine Ev.mk ?_); conv => whnf) | (with_reducible refine And.intro ?_ ?_) | (intro h))
  all_goals (try simp only [decide_eq_true_eq, decide_eq_false_iff_not, beq_iff_eq, bne_iff_ne, beq_eq_false_iff_ne, bne_eq_false_iff_eq, Int.toNat_natCast, ge_iff_le, gt_iff_lt, Bool.not_eq_true', Bool.not_eq_false', Int.not_lt, Int.not_le, ne_eq] at *)
  all_goals (try dsimp only [Ty.den, Ty.dflt, EntT, sOwn22, sCheck22, sFirst, sTrim, sNote, sAdd, sLight22] at *)
  all_goals (try simp only [eq4, ne4, eq3, ne3, eq2, ne2, Prod.eta, List.length_cons, List.length_nil, List.length_append, Nat.zero_add] at *)
  all_goals (try simp (disch := omega) only [wrap64] at *)
  all_goals try first | exact leafDraw (by kernel_rfl) | exact Leaf.mk trivial | (refine Leaf.mk ?_; omega) | (refine Leaf.mk ?_; unfold maxLen; omega)
  · refine Leaf.mk ⟨i + 1, ?_, by omega, by omega⟩
    rw [lastT_at (by omega)]; rfl
  all_goals
    have hT : xs.take i = xs := List.take_of_length_le (by omega)
    have hal := add_len ax k
    obtain ⟨k1, k2, k3⟩ := law_second hc ax bx k (start := lastT (xs.take i) 0) (by rw [hT])
    first
    | exact Leaf.mk (show xs.length ≤ 1000 ∧ (add ax k).length ≤ 1000 by omega)
    | (simp only [k1, k2, k3] at *
       first
       | exact Leaf.mk rfl
       | exact absurd rfl ‹¬ _ = _›
       | simp at h)
end Go.Proofs.Ytlfehkoklgmjjaa
