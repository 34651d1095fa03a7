import Derived.Test.YtiklpaemkeadjaaC7
import Derived.Test.YtiklpaemkeadjaaA5

set_option linter.unusedVariables false
set_option linter.unusedSimpArgs false
set_option maxRecDepth 8000
namespace Go.Proofs.Ytiklpaemkeadjaa
open Go.Eng
theorem check_len {s : Stk} (h : check s = 0) : s.2.length ≤ 8 := by
  unfold check at h
  split at h
  · omega
  split at h
  · omega
  · omega
def sVisiblePrunes : PSpec := lawSpec [StT, .pair (.int .u32) (.int .u32), .int .i64]
theorem fVisiblePrunes : FnOk Try.prog 5 := ⟨_, Try.func5, by decide, rfl⟩
theorem pVisiblePrunes : PSound Try.prog 5 sVisiblePrunes := by
  refine psound (T := tab) (S := (spOf [(15, sLight.spec (lsOf [])), (16, sAwake13.spec (lsOf [])), (30, sCheck.spec (lsOf [])), (31, sPrune.spec (lsOf [])), (17, sRead.spec (lsOf [])), (21, sNewer.spec (lsOf [])), (25, sSettled.spec (lsOf []))])) (keep := k5) (by kernel_rfl) tabOk (spCons (pOk pLight fLight (by decide) lsNil) (spCons (pOk pAwake13 fAwake13 (by decide) lsNil) (spCons (pOk pCheck fCheck (by decide) lsNil) (spCons (pOk pPrune fPrune (by decide) lsNil) (spCons (pOk pRead fRead (by decide) lsNil) (spCons (pOk pNewer fNewer (by decide) lsNil) (spCons (pOk pSettled fSettled (by decide) lsNil) spNil))))))) (by kernel_rfl) Try.func5 (by kernel_rfl) (by decide) fun xs hg hp => ?_
  obtain ⟨⟨key, xs⟩, ⟨a, b⟩, me, ⟨⟩⟩ := xs
  obtain ⟨⟨hk, hl, hx⟩, ⟨ha, hb⟩, -⟩ := hg
  change List UInt8 at key
  change List Ver at xs
  change Int at me
  change Int at a
  change Int at b
  have ha := bdu32 ha
  have hb := bdu32 hb
  clear hp hx
  show vfun tab _ k5 Try.f5 [.agg [.s key, .sl VerT xs], .agg [.i .u32 a, .i .u32 b], .i .i64 me] [] _
  refine Ev.out ?_
  repeat' (first | ((with_reducible refine Ev.mk ?_); conv => whnf) | (with_reducible refine And.intro ?_ ?_) | (intro h))
  all_goals (try simp only [decide_eq_true_eq, decide_eq_false_iff_not, beq_iff_eq, bne_iff_ne, beq_eq_false_iff_ne, bne_eq_false_iff_eq, Int.toNat_natCast, ge_iff_le, gt_iff_lt, Bool.not_eq_true', Bool.not_eq_false', Int.not_lt, Int.not_le, ne_eq] at *)
  all_goals (try dsimp only [Ty.den, Ty.dflt, VerT, sCheck, sPrune, sNewer, sSettled, sLight] at *)
  all_goals (try simp only [eq4, ne4, eq3, ne3, eq2, ne2, Prod.eta, List.length_cons, List.length_nil, List.length_append, Nat.zero_add] at *)
  all_goals (try simp (disch := omega) only [wrap64] at *)
  all_goals try first | exact leafDraw (by kernel_rfl) | exact Leaf.mk trivial | (refine Leaf.mk ?_; omega) | (refine Leaf.mk ?_; unfold maxLen; omega)
  all_goals try exact Leaf.mk rfl
  · exact Leaf.mk (show xs.length ≤ 100000 from Nat.le_trans (check_len h) (by decide))
  all_goals
    have hL := prune_law (s := (key, xs)) (me := me) (a := a) (b := a + b) (check_fine ‹check (key, xs) = 0›) (by omega)
    first
    | exact absurd (congrArg Prod.fst hL.1) h
    | exact absurd (congrArg Prod.snd hL.1) h
    | exact absurd hL.2.1 h
    | (have h1 := hL.2.2; rw [‹settled _ _ = false›] at h1; cases h1)
theorem pend_room {me : Int} (xs : List Ver) : (∃ v, xs.find? (pend me) = some v) ↔ (0 ≤ idxF (roomP me) xs 0 ∧ 0 ≤ me) := by
  rcases place_split me xs with ⟨h1, h2⟩ | ⟨A, u, B, rfl, h1, h2, h3⟩
  · constructor
    · rintro ⟨v, hv⟩
      have hm := List.mem_of_find?_eq_some hv
      have hc0 := List.find?_some hv
      have hc := of_decide_eq_true hc0
      have := h2 v hm
      rw [roomP_iff.2 ⟨hc.1, hc.2.1⟩] at this; cases this
    · intro h; omega
  · constructor
    · rintro ⟨v, hv⟩
      have hc0 := List.find?_some hv
      have hc := of_decide_eq_true hc0
      omega
    · intro h
      cases hf : (A ++ u :: B).find? (pend me) with
      | some v => exact ⟨v, rfl⟩
      | none =>
        rw [List.find?_eq_none] at hf
        have h3 := roomP_iff.1 h3
        exact absurd (decide_eq_true ⟨h3.1, h3.2, h.2⟩) (hf u (by simp))
theorem commits_all {key val : List UInt8} {xs : List Ver} {txn ts me : Int} {gone : Bool} (hr : room (key, xs) txn = true) (h0 : 0 ≤ txn) (hne : ¬ me = txn) (hg : gone = true → val = []) :
    ((¬ (readV (write (key, xs) (txn, ts, gone, val)) txn 0).2 = gone ∧ (readV (write (key, xs) (txn, ts, gone, val)) txn 0).1 = val) ∧
    readV (write (key, xs) (txn, ts, gone, val)) me (maxT xs) = readV (key, xs) me (maxT xs)) ∧
    (readV (commit (write (key, xs) (txn, ts, gone, val)) txn (maxT xs)) me (maxT xs - 1) = readV (key, xs) me (maxT xs - 1) ∧
    newer (commit (write (key, xs) (txn, ts, gone, val)) txn (maxT xs)) me (maxT xs - 1) = true) ∧
    ((0 ≤ idxF (roomP me) xs 0 → 0 ≤ me → readV (commit (write (key, xs) (txn, ts, gone, val)) txn (maxT xs)) me (maxT xs) = readV (key, xs) me (maxT xs)) ∧
    (idxF (roomP me) xs 0 < 0 ∨ me < 0 → (readV (commit (write (key, xs) (txn, ts, gone, val)) txn (maxT xs)) me (maxT xs)).1 = val ∧ ¬ (readV (commit (write (key, xs) (txn, ts, gone, val)) txn (maxT xs)) me (maxT xs)).2 = gone)) := by
  have hout : ∀ t, (outV (some (txn, t, gone, val))).1 = val ∧ ¬ (outV (some (txn, t, gone, val))).2 = gone := fun t => by
    unfold outV
    dsimp only
    cases gone
    · simp
    · simp [hg rfl]
  have h1 := law_own (v := (txn, ts, gone, val)) hr h0
  have h2 := law_others (v := (txn, ts, gone, val)) (me := me) (at' := maxT xs) hr hne
  have hm := maxT_law xs
  have h3 := law_commit (v := (txn, ts, gone, val)) (me := me) hr hne hm.1 hm.2
  refine ⟨⟨?_, h2⟩, h3.2, ?_, ?_⟩
  · rw [h1]; exact (hout 0).symm
  · intro h4 h5
    obtain ⟨u, hu⟩ := (pend_room xs).2 ⟨h4, h5⟩
    have := h3.1
    rw [hu] at this
    exact this
  · intro h4
    have : xs.find? (pend me) = none := by
      cases hf : xs.find? (pend me) with
      | none => rfl
      | some u => have := (pend_room xs).1 ⟨u, hf⟩; omega
    have h5 := h3.1
    rw [this] at h5
    rw [h5]
    exact hout _
theorem write_len (s : Stk) (v : Ver) : (write s v).2.length ≤ s.2.length + 1 := by
  unfold write
  repeat' split
  all_goals simp
set_option maxHeartbeats 4000000
def sVisibleCommits : PSpec := lawSpec [StT, VerT, .int .i64]
theorem fVisibleCommits : FnOk Try.prog 6 := ⟨_, Try.func6, by decide, rfl⟩
theorem pVisibleCommits : PSound Try.prog 6 sVisibleCommits := by
  refine psound (T := tab) (S := (spOf [(15, sLight.spec (lsOf [])), (16, sAwake13.spec (lsOf [])), (30, sCheck.spec (lsOf [])), (23, sRoom.spec (lsOf [])), (32, sWrite.spec (lsOf [])), (33, sCommit.spec (lsOf [])), (34, sPending.spec (lsOf [])), (17, sRead.spec (lsOf [])), (21, sNewer.spec (lsOf []))])) (keep := k6) (by kernel_rfl) tabOk (spCons (pOk pLight fLight (by decide) lsNil) (spCons (pOk pAwake13 fAwake13 (by decide) lsNil) (spCons (pOk pCheck fCheck (by decide) lsNil) (spCons (pOk pRoom fRoom (by decide) lsNil) (spCons (pOk pWrite fWrite (by decide) lsNil) (spCons (pOk pCommit fCommit (by decide) lsNil) (spCons (pOk pPending fPending (by decide) lsNil) (spCons (pOk pRead fRead (by decide) lsNil) (spCons (pOk pNewer fNewer (by decide) lsNil) spNil))))))))) (by kernel_rfl) Try.func6 (by kernel_rfl) (by decide) fun xs hg hp => ?_
  obtain ⟨⟨key, xs⟩, ⟨txn, ts, gone, val⟩, me, ⟨⟩⟩ := xs
  obtain ⟨⟨hk, hl, hx⟩, ⟨ht, hts, -, hv⟩, hm, -⟩ := hg
  change List UInt8 at key
  change List Ver at xs
  change Int at me
  change Int at txn
  change Int at ts
  change Bool at gone
  change List UInt8 at val
  change xs.length ≤ _ at hl
  change val.length ≤ _ at hv
  have hl := len63 hl
  have hv := len63 hv
  clear hp hx
  show vfun tab _ k6 Try.f6 [.agg [.s key, .sl VerT xs], .agg [.i .i64 txn, .i .i64 ts, .b gone, .s val], .i .i64 me] [] _
  refine Ev.out ?_
  repeat' (first | ((with_reducible refine Ev.mk ?_); conv => whnf) | (with_reducible refine And.intro ?_ ?_) | (intro h))
  all_goals (try simp only [decide_eq_true_eq, decide_eq_false_iff_not, beq_iff_eq, bne_iff_ne, beq_eq_false_iff_ne, bne_eq_false_iff_eq, Int.toNat_natCast, ge_iff_le, gt_iff_lt, Bool.not_eq_true', Bool.not_eq_false', Int.not_lt, Int.not_le, ne_eq] at *)
  all_goals (try dsimp only [Ty.den, Ty.dflt, VerT, sCheck, sLight, sRoom] at *)
  all_goals (try simp only [eq4, ne4, eq3, ne3, eq2, ne2, Prod.eta, List.length_cons, List.length_nil, List.length_append, Nat.zero_add] at *)
  all_goals (try simp (disch := omega) only [wrap64] at *)
  all_goals try first | exact leafDraw (by kernel_rfl) | exact Leaf.mk trivial | (refine Leaf.mk ?_; omega) | (refine Leaf.mk ?_; unfold maxLen; omega)
  all_goals try exact Leaf.mk rfl
  all_goals
    have hgv : gone = true → val = [] := fun hh => by first | assumption | exact absurd (hh.symm.trans ‹gone = false›) (by simp)
    have hf := check_fine ‹check (key, xs) = 0›
    have h8 := check_len ‹check (key, xs) = 0›
    change xs.length ≤ 8 at h8
    refine LoopVC.on (fun i : Nat => [(8, .i .i64 i), (7, .i .i64 ((xs.take i).foldl (fun m v => if v.2.1 + 1 > m then v.2.1 + 1 else m) 1))]) (fun _ => []) (fun i => i ≤ xs.length) (fun i => xs.length - i) 0 rfl (by omega) ?_
    intro i hi
    have hml := maxT_le (xs.take i) 1 (by omega) (fun v hv => (hf.ts v (List.mem_of_mem_take hv)).2)
    have hmg := (maxT_gen (xs.take i) 1).1
    have hti : ∀ j, j < xs.length → 0 ≤ (xs.getD j ver0).2.1 ∧ (xs.getD j ver0).2.1 ≤ 1099511627776 := fun j hj => hf.ts _ (getD_mem hj)
    have hti := hti i
    dsimp only [ver0] at hti
  · repeat' (first | ((with_reducible refine Ev.mk ?_); conv => whnf) | (with_reducible refine And.intro ?_ ?_) | (intro h))
    all_goals (try simp only [decide_eq_true_eq, decide_eq_false_iff_not, beq_iff_eq, bne_iff_ne, beq_eq_false_iff_ne, bne_eq_false_iff_eq, Int.toNat_natCast, ge_iff_le, gt_iff_lt, Bool.not_eq_true', Bool.not_eq_false', Int.not_lt, Int.not_le, ne_eq] at *)
    all_goals (try dsimp only [Ty.den, Ty.dflt, VerT, sCheck, sLight, sRoom, sWrite, sCommit, sNewer, sPending] at *)
    all_goals (try simp only [eq4, ne4, eq3, ne3, eq2, ne2, Prod.eta, List.length_cons, List.length_nil, List.length_append, Nat.zero_add] at *)
    all_goals (try simp (disch := omega) only [wrap64] at *)
    all_goals try first | exact leafDraw (by kernel_rfl) | exact Leaf.mk trivial | (refine Leaf.mk ?_; omega) | (refine Leaf.mk ?_; unfold maxLen; omega)
    all_goals first
      | exact Leaf.mk rfl
      | (refine Leaf.mk ⟨i + 1, ?_, by omega, by omega⟩
         rw [foldl_at ver0 (by omega)]; rfl)
      | (refine Leaf.mk (?_ : List.length _ ≤ 100000)
         first
         | omega
         | (have := write_len (key, xs) (txn, ts, gone, val); dsimp only at this; omega))
      | (have hT : xs.take i = xs := List.take_of_length_le (by omega)
         try rw [hT] at h
         have hA := commits_all (ts := ts) ‹room (key, xs) txn = true› ‹0 ≤ txn› ‹¬ me = txn› hgv
         first
         | exact absurd h hA.1.1.1
         | exact absurd hA.1.1.2 h
         | exact absurd (congrArg Prod.fst hA.1.2) h
         | exact absurd (congrArg Prod.snd hA.1.2) h
         | exact absurd (congrArg Prod.fst hA.2.1.1) h
         | exact absurd (congrArg Prod.snd hA.2.1.1) h
         | exact absurd (hA.2.1.2.symm.trans h) (by simp)
         | exact absurd (congrArg Prod.fst (hA.2.2.1 (of_decide_eq_true ‹_›) ‹_›)) h
         | exact absurd (congrArg Prod.snd (hA.2.2.1 (of_decide_eq_true ‹_›) ‹_›)) h
         | exact absurd h (hA.2.2.2 (.inr ‹_›)).2
         | exact absurd (hA.2.2.2 (.inr ‹_›)).1 h
         | exact absurd h (hA.2.2.2 (.inl (Int.not_le.1 (of_decide_eq_false ‹_›)))).2
         | exact absurd (hA.2.2.2 (.inl (Int.not_le.1 (of_decide_eq_false ‹_›)))).1 h)
  · repeat' (first | ((with_reducible refine Ev.mk ?_); conv => whnf) | (with_reducible refine And.intro ?_ ?_) | (intro h))
    all_goals (try simp only [decide_eq_true_eq, decide_eq_false_iff_not, beq_iff_eq, bne_iff_ne, beq_eq_false_iff_ne, bne_eq_false_iff_eq, Int.toNat_natCast, ge_iff_le, gt_iff_lt, Bool.not_eq_true', Bool.not_eq_false', Int.not_lt, Int.not_le, ne_eq] at *)
    all_goals (try dsimp only [Ty.den, Ty.dflt, VerT, sCheck, sLight, sRoom, sWrite, sCommit, sNewer, sPending] at *)
    all_goals (try simp only [eq4, ne4, eq3, ne3, eq2, ne2, Prod.eta, List.length_cons, List.length_nil, List.length_append, Nat.zero_add] at *)
    all_goals (try simp (disch := omega) only [wrap64] at *)
    all_goals try first | exact leafDraw (by kernel_rfl) | exact Leaf.mk trivial | (refine Leaf.mk ?_; omega) | (refine Leaf.mk ?_; unfold maxLen; omega)
    all_goals first
      | exact Leaf.mk rfl
      | (refine Leaf.mk ⟨i + 1, ?_, by omega, by omega⟩
         rw [foldl_at ver0 (by omega)]; rfl)
      | (refine Leaf.mk (?_ : List.length _ ≤ 100000)
         first
         | omega
         | (have := write_len (key, xs) (txn, ts, gone, val); dsimp only at this; omega))
      | (have hT : xs.take i = xs := List.take_of_length_le (by omega)
         try rw [hT] at h
         have hA := commits_all (ts := ts) ‹room (key, xs) txn = true› ‹0 ≤ txn› ‹¬ me = txn› hgv
         first
         | exact absurd h hA.1.1.1
         | exact absurd hA.1.1.2 h
         | exact absurd (congrArg Prod.fst hA.1.2) h
         | exact absurd (congrArg Prod.snd hA.1.2) h
         | exact absurd (congrArg Prod.fst hA.2.1.1) h
         | exact absurd (congrArg Prod.snd hA.2.1.1) h
         | exact absurd (hA.2.1.2.symm.trans h) (by simp)
         | exact absurd (congrArg Prod.fst (hA.2.2.1 (of_decide_eq_true ‹_›) ‹_›)) h
         | exact absurd (congrArg Prod.snd (hA.2.2.1 (of_decide_eq_true ‹_›) ‹_›)) h
         | exact absurd h (hA.2.2.2 (.inr ‹_›)).2
         | exact absurd (hA.2.2.2 (.inr ‹_›)).1 h
         | exact absurd h (hA.2.2.2 (.inl (Int.not_le.1 (of_decide_eq_false ‹_›)))).2
         | exact absurd (hA.2.2.2 (.inl (Int.not_le.1 (of_decide_eq_false ‹_›)))).1 h)
end Go.Proofs.Ytiklpaemkeadjaa
