import Derived.Test.YtlfehkoklgmjjaaF9

set_option linter.unusedVariables false
set_option linter.unusedSimpArgs false
set_option maxRecDepth 8000
set_option maxHeartbeats 4000000
namespace Go.Proofs.Ytlfehkoklgmjjaa
open Go.Eng
theorem any_none {p : Ver → Bool} {l : List Ver} (h : ∀ v ∈ l, p v = false) : l.any p = false := by
  rw [List.any_eq_false]; intro v hv; rw [h v hv]; simp
theorem countP_all {p : Ver → Bool} {l : List Ver} (h : ∀ v ∈ l, p v = true) : l.countP p = l.length := List.countP_eq_length.2 h
structure Ends (s W : Stk) (me ts : Int) : Prop where
  c0 : (commit W me ts).2.any (roomP me) = false
  a0 : (abort W me).2.any (roomP me) = false
  len : (commit W me ts).2.length = W.2.length
  same : s.2.any (roomP me) = false → abort W me = s
  has1 : s.2.any (roomP me) = true → W.2.any (roomP me) = true
  has2 : s.2.any (roomP me) = false → W.2.any (roomP me) = decide ((s.2.length : Int) < 8)
  cnt : W.2.length ≤ (commit W me ts).2.countP (fun c => decide (c ∈ W.2)) + 1
  cnt2 : W.2.any (roomP me) = false → (commit W me ts).2.countP (fun c => decide (c ∈ W.2)) = W.2.length
  wl : W.2.length ≤ s.2.length + 1
theorem ends_all {s : Stk} {v : Ver} {ts : Int} (hc : check s = 0) (h1 : 1 ≤ ts) : Ends s (write s v) v.1 ts := by
  have ok := check_ok.1 hc
  have hp := pw_iff.1 ok.ord
  -- where the version stands
  have main : ∀ A B, (∀ w ∈ A, roomP v.1 w = false) → (∀ w ∈ B, roomP v.1 w = false) → write s v = (s.1, A ++ (v.1, 0, v.2.2) :: B) → (s.2.any (roomP v.1) = false → A ++ B = s.2) → (s.2.any (roomP v.1) = false → s.2.length < 8) → (A ++ (v.1, 0, v.2.2) :: B).length ≤ s.2.length + 1 → Ends s (write s v) v.1 ts := by
    intro A B hA hB hw hs h8 hwl
    have hv0 : roomP v.1 (v.1, 0, v.2.2) = true := room_iff.2 ⟨rfl, rfl⟩
    have hAB : ∀ w ∈ A ++ B, roomP v.1 w = false := fun w hw => by
      rcases List.mem_append.1 hw with hw | hw
      · exact hA w hw
      · exact hB w hw
    have hcom := commit_at (s := write s v) (A := A) (B := B) (u := (v.1, 0, v.2.2)) (me := v.1) (ts := ts) (by rw [hw]) hA hv0 h1
    have hq := slotN_le (ts := ts) (ys := A ++ B) (A ++ B).length
    generalize slotN ts (A ++ B) (A ++ B).length = q at hcom hq
    have hab : (abort (write s v) v.1).2 = A ++ B := by
      rw [hw]
      show List.filter _ (A ++ _ :: B) = _
      rw [List.filter_append, List.filter_cons, if_neg (by rw [hv0]; simp), List.filter_eq_self.2 (fun w h => by rw [hA w h]; rfl), List.filter_eq_self.2 (fun w h => by rw [hB w h]; rfl)]
    have hany : (write s v).2.any (roomP v.1) = true := by
      rw [hw]; show (A ++ _ :: B).any _ = true
      rw [List.any_append, List.any_cons, hv0]; simp
    have hmemW : ∀ w ∈ A ++ B, w ∈ (write s v).2 := fun w h => by
      rw [hw]; show w ∈ A ++ _ :: B
      rcases List.mem_append.1 h with h | h
      · simp [h]
      · simp [h]
    refine ⟨?_, ?_, ?_, fun h => ?_, fun _ => hany, fun h => ?_, ?_, fun h => ?_, ?_⟩
    · rw [hcom]
      refine any_none fun w h => ?_
      rcases List.mem_append.1 h with h | h
      · exact hAB w (List.mem_of_mem_take h)
      · rcases List.mem_cons.1 h with rfl | h
        · rw [← Bool.not_eq_true, room_iff]; intro hh; have := hh.1; dsimp only at this; omega
        · exact hAB w (List.mem_of_mem_drop h)
    · rw [hab]; exact any_none hAB
    · rw [hcom, hw]; simp; omega
    · have e := hab
      rw [hs h] at e
      show ((write s v).1, (abort (write s v) v.1).2) = s
      rw [e, hw]
    · rw [hany, eq_comm, decide_eq_true_iff]; have := h8 h; omega
    · rw [hcom, hw]
      show (A ++ _ :: B).length ≤ _
      rw [List.countP_append, List.countP_cons, countP_all (fun w h => by rw [← hw]; exact decide_eq_true (hmemW w (List.mem_of_mem_take h))), countP_all (fun w h => by rw [← hw]; exact decide_eq_true (hmemW w (List.mem_of_mem_drop h)))]
      simp; omega
    · rw [hany] at h; cases h
    · rw [hw]; exact hwl
  rcases write_at (s := s) (v := v) with ⟨A, u, B, e, hu, hA, hw⟩ | ⟨hn, ⟨hl, hw⟩ | ⟨hl, hw⟩⟩
  · refine main A B hA (fun w hw2 => ?_) hw (fun h => ?_) (fun h => ?_) (by rw [e]; simp)
    · rw [← Bool.not_eq_true]
      intro hw3
      rw [e, List.pairwise_append, List.pairwise_cons] at hp
      have hb := bad_false.1 (hp.2.1.1 w hw2)
      have hu' := room_iff.1 hu
      have hw' := room_iff.1 hw3
      exact (hb.1 hu'.1).2 (by rw [hu'.2, hw'.2])
    · rw [e, List.any_append, List.any_cons, hu] at h; simp at h
    · rw [e, List.any_append, List.any_cons, hu] at h; simp at h
  · exact main s.2 [] hn (by simp) (by rw [hw]) (fun _ => by simp) (fun _ => hl) (by simp)
  · have hany : s.2.any (roomP v.1) = false := any_none hn
    rw [hw]
    have hcm : commit s v.1 ts = s := commit_no hn
    have hab : abort s v.1 = s := by
      show (s.1, s.2.filter _) = s
      rw [List.filter_eq_self.2 (fun w h => by rw [hn w h]; rfl)]
    have hcnt : s.2.countP (fun c => decide (c ∈ s.2)) = s.2.length := countP_all fun w h => decide_eq_true h
    exact ⟨by rw [hcm]; exact hany, by rw [hab]; exact hany, by rw [hcm], fun _ => hab, fun h => absurd (hany.symm.trans h) (by simp), fun _ => by rw [hany, eq_comm, decide_eq_false_iff_not]; omega, by rw [hcm, hcnt]; omega, fun _ => by rw [hcm, hcnt], by omega⟩
theorem room_any (me : Int) (xs : List Ver) : decide (0 ≤ idxF (roomP me) xs 0) = xs.any (roomP me) := idxF_any xs 0
def sStackEnds : PSpec := lawSpec [StT, VerT, .int .u32]
theorem fStackEnds : FnOk Try.prog 10 := ⟨_, Try.func10, by decide, rfl⟩
theorem pStackEnds : PSound Try.prog 10 sStackEnds := by
  refine psound (T := tab) (S := (spOf [(45, sLight.spec (lsOf [])), (46, sAwake11.spec (lsOf [])), (53, sCheck.spec (lsOf [])), (56, sPending.spec (lsOf [])), (57, sWrite.spec (lsOf [])), (58, sCommit.spec (lsOf [])), (59, sAbort.spec (lsOf [])), (52, sSSame.spec (lsOf []))])) (keep := k10) (by kernel_rfl) tabOk (spCons (pOk pLight fLight (by decide) lsNil) (spCons (pOk pAwake11 fAwake11 (by decide) lsNil) (spCons (pOk pCheck fCheck (by decide) lsNil) (spCons (pOk pPending fPending (by decide) lsNil) (spCons (pOk pWrite fWrite (by decide) lsNil) (spCons (pOk pCommit fCommit (by decide) lsNil) (spCons (pOk pAbort fAbort (by decide) lsNil) (spCons (pOk pSSame fSSame (by decide) lsNil) spNil)))))))) (by kernel_rfl) Try.func10 (by kernel_rfl) (by decide) fun xs hg hp => ?_
  obtain ⟨⟨key, xs⟩, ⟨txn, vts, gone, val⟩, ts, ⟨⟩⟩ := xs
  obtain ⟨-, ⟨-, -, -, hv⟩, ht, -⟩ := hg
  change List UInt8 at key
  change List Ver at xs
  change Int at txn vts ts
  change Bool at gone
  change List UInt8 at val
  change val.length ≤ _ at hv
  have hv := len63 hv
  have ht := bdu32 ht
  clear hp
  show vfun tab _ k10 Try.f10 [.agg [.s key, .sl VerT xs], .agg [.i .i64 txn, .i .i64 vts, .b gone, .s val], .i .u32 ts] [] _
  refine Ev.out ?_
  repeat' (first | ((with_reducible refine Ev.mk ?_); conv => whnf) | (with_reducible refine And.intro ?_ ?_) | (intro h))
  all_goals (try simp only [decide_eq_true_eq, decide_eq_false_iff_not, beq_iff_eq, bne_iff_ne, beq_eq_false_iff_ne, bne_eq_false_iff_eq, Int.toNat_natCast, ge_iff_le, gt_iff_lt, Bool.not_eq_true', Bool.not_eq_false', Int.not_lt, Int.not_le, ne_eq] at *)
  all_goals (try dsimp only [Ty.den, Ty.dflt, VerT, sLight, sCheck, sPending, sWrite, sCommit, sAbort] at *)
  all_goals (try simp only [eq4, ne4, eq3, ne3, eq2, ne2, Prod.eta, List.length_cons, List.length_nil, List.length_append, Nat.zero_add] at *)
  all_goals (try simp (disch := omega) only [wrap64] at *)
  all_goals try first | exact leafDraw (by kernel_rfl) | exact Leaf.mk trivial | (refine Leaf.mk ?_; omega) | (refine Leaf.mk ?_; unfold maxLen; omega)
  all_goals try exact Leaf.mk rfl
  all_goals (try simp only [room_any] at *)
  all_goals
    have h8 := (check_ok.1 ‹check (key, xs) = 0›).len
    have E := ends_all (s := (key, xs)) (v := (txn, vts, gone, val)) (ts := 1 + ts) ‹check (key, xs) = 0› (by omega)
    have hwl := E.wl
    dsimp only at h8 hwl
  all_goals try first
    | exact Leaf.mk (show xs.length ≤ 100000 by omega)
    | exact Leaf.mk (show (write (key, xs) (txn, vts, gone, val)).2.length ≤ 100000 by omega)
    | exact absurd (E.c0.symm.trans ‹(commit (write (key, xs) (txn, vts, gone, val)) txn (1 + ts)).2.any (roomP txn) = true›) (by simp)
    | exact absurd (E.a0.symm.trans ‹(abort (write (key, xs) (txn, vts, gone, val)) txn).2.any (roomP txn) = true›) (by simp)
    | exact absurd (congrArg (fun n : Nat => (n : Int)) E.len) ‹¬ ((commit (write (key, xs) (txn, vts, gone, val)) txn (1 + ts)).2.length : Int) = _›
    | exact absurd (‹xs.any (roomP txn) = true›.symm.trans ‹xs.any (roomP txn) = false›) (by simp)
    | exact absurd ((show sameS (abort (write (key, xs) (txn, vts, gone, val)) txn) (key, xs) = true from decide_eq_true (E.same ‹_›)).symm.trans ‹(sSSame.fn (abort (write (key, xs) (txn, vts, gone, val)) txn, (key, xs), ())).1.1 = false›) (by simp)
    | exact absurd (E.has1 ‹xs.any (roomP txn) = true›) ‹¬ _ = true›
    | exact absurd (E.has2 ‹xs.any (roomP txn) = false›) ‹¬ _ = decide _›
  · have hcnt := E.cnt
    have hcnt2 := E.cnt2
    have hlen := E.len
    clear E
    dsimp only at hcnt hcnt2 hlen
    generalize hW : write (key, xs) (txn, vts, gone, val) = W at *
    generalize hC : commit W txn (1 + ts) = C at *
    obtain ⟨wk, w⟩ := W
    obtain ⟨ck, c⟩ := C
    dsimp only at *
    refine LoopVC.on (fun i : Nat => [(19, .i .i64 i), (18, .i .i64 ((c.take i).countP (fun v => decide (v ∈ w)) : Nat))]) (fun _ => []) (fun i => i ≤ c.length) (fun i => c.length - i) 0 rfl (by omega) ?_
    intro i hi
    have hcp := countP_take_le (xs := c) (i := i) (p := fun v => decide (v ∈ w))
    repeat' (first | ((with_reducible refine Ev.mk ?_); conv => whnf) | (with_reducible refine And.intro ?_ ?_) | (intro h))
    all_goals (try simp only [decide_eq_true_eq, decide_eq_false_iff_not, beq_iff_eq, bne_iff_ne, beq_eq_false_iff_ne, bne_eq_false_iff_eq, Int.toNat_natCast, ge_iff_le, gt_iff_lt, Bool.not_eq_true', Bool.not_eq_false', Int.not_lt, Int.not_le, ne_eq] at *)
    all_goals (try dsimp only [Ty.den, Ty.dflt, VerT] at *)
    all_goals (try simp only [eq4, ne4, eq3, ne3, eq2, ne2, Prod.eta, List.length_cons, List.length_nil, List.length_append, Nat.zero_add] at *)
    all_goals (try simp (disch := omega) only [wrap64] at *)
    all_goals try first | exact leafDraw (by kernel_rfl) | exact Leaf.mk trivial | (refine Leaf.mk ?_; omega) | (refine Leaf.mk ?_; unfold maxLen; omega)
    all_goals try exact Leaf.mk rfl
    · refine LoopVC.on (fun k : Nat => [(20, .i .i64 k)]) (fun _ => []) (fun k => k ≤ w.length ∧ ∀ j, j < k → ¬ c.getD i ver0 = w.getD j ver0) (fun k => w.length - k) 0 rfl ⟨by omega, fun j hj => by omega⟩ ?_
      intro k ⟨hk, hn⟩
      repeat' (first | ((with_reducible refine Ev.mk ?_); conv => whnf) | (with_reducible refine And.intro ?_ ?_) | (intro h))
      all_goals (try simp only [decide_eq_true_eq, decide_eq_false_iff_not, beq_iff_eq, bne_iff_ne, beq_eq_false_iff_ne, bne_eq_false_iff_eq, Int.toNat_natCast, ge_iff_le, gt_iff_lt, Bool.not_eq_true', Bool.not_eq_false', Int.not_lt, Int.not_le, ne_eq] at *)
      all_goals (try dsimp only [Ty.den, Ty.dflt, VerT] at *)
      all_goals (try simp only [eq4, ne4, eq3, ne3, eq2, ne2, Prod.eta, List.length_cons, List.length_nil, List.length_append, Nat.zero_add] at *)
      all_goals (try simp (disch := omega) only [wrap64] at *)
      all_goals try first | exact leafDraw (by kernel_rfl) | exact Leaf.mk trivial | (refine Leaf.mk ?_; omega) | (refine Leaf.mk ?_; unfold maxLen; omega)
      · refine Leaf.mk ⟨i + 1, ?_, by omega, by omega⟩
        rw [countP_at ver0 (by omega), if_pos (decide_eq_true (by
          show c.getD i ver0 ∈ w
          rw [show c.getD i ver0 = w.getD k ver0 from h]; exact getD_mem ver0 (by omega)))]
        rfl
      · refine Leaf.mk ⟨k + 1, rfl, ⟨by omega, fun j hj => ?_⟩, by omega⟩
        rcases Nat.lt_or_ge j k with hjk | hjk
        · exact hn j hjk
        · obtain rfl : j = k := by omega
          exact h
      · refine Leaf.mk ⟨i + 1, ?_, by omega, by omega⟩
        rw [countP_at ver0 (by omega), if_neg (by
          rw [decide_eq_true_iff]
          intro hm
          obtain ⟨j, hj, e⟩ := List.mem_iff_getElem.1 hm
          refine hn j (by omega) ?_
          rw [List.getD_eq_getElem?_getD (l := w), List.getElem?_eq_getElem hj]
          exact e.symm)]
        rfl
    all_goals
      have hT : (c.take i).countP (fun v => decide (v ∈ w)) = c.countP (fun v => decide (v ∈ w)) := by rw [List.take_of_length_le (by omega)]
      simp only [hT] at *
      first
      | (have := hcnt2 ‹w.any (roomP txn) = false›; omega)
      | omega
  · have hcnt := E.cnt
    have hcnt2 := E.cnt2
    have hlen := E.len
    clear E
    dsimp only at hcnt hcnt2 hlen
    generalize hW : write (key, xs) (txn, vts, gone, val) = W at *
    generalize hC : commit W txn (1 + ts) = C at *
    obtain ⟨wk, w⟩ := W
    obtain ⟨ck, c⟩ := C
    dsimp only at *
    refine LoopVC.on (fun i : Nat => [(19, .i .i64 i), (18, .i .i64 ((c.take i).countP (fun v => decide (v ∈ w)) : Nat))]) (fun _ => []) (fun i => i ≤ c.length) (fun i => c.length - i) 0 rfl (by omega) ?_
    intro i hi
    have hcp := countP_take_le (xs := c) (i := i) (p := fun v => decide (v ∈ w))
    repeat' (first | ((with_reducible refine Ev.mk ?_); conv => whnf) | (with_reducible refine And.intro ?_ ?_) | (intro h))
    all_goals (try simp only [decide_eq_true_eq, decide_eq_false_iff_not, beq_iff_eq, bne_iff_ne, beq_eq_false_iff_ne, bne_eq_false_iff_eq, Int.toNat_natCast, ge_iff_le, gt_iff_lt, Bool.not_eq_true', Bool.not_eq_false', Int.not_lt, Int.not_le, ne_eq] at *)
    all_goals (try dsimp only [Ty.den, Ty.dflt, VerT] at *)
    all_goals (try simp only [eq4, ne4, eq3, ne3, eq2, ne2, Prod.eta, List.length_cons, List.length_nil, List.length_append, Nat.zero_add] at *)
    all_goals (try simp (disch := omega) only [wrap64] at *)
    all_goals try first | exact leafDraw (by kernel_rfl) | exact Leaf.mk trivial | (refine Leaf.mk ?_; omega) | (refine Leaf.mk ?_; unfold maxLen; omega)
    all_goals try exact Leaf.mk rfl
    · refine LoopVC.on (fun k : Nat => [(20, .i .i64 k)]) (fun _ => []) (fun k => k ≤ w.length ∧ ∀ j, j < k → ¬ c.getD i ver0 = w.getD j ver0) (fun k => w.length - k) 0 rfl ⟨by omega, fun j hj => by omega⟩ ?_
      intro k ⟨hk, hn⟩
      repeat' (first | ((with_reducible refine Ev.mk ?_); conv => whnf) | (with_reducible refine And.intro ?_ ?_) | (intro h))
      all_goals (try simp only [decide_eq_true_eq, decide_eq_false_iff_not, beq_iff_eq, bne_iff_ne, beq_eq_false_iff_ne, bne_eq_false_iff_eq, Int.toNat_natCast, ge_iff_le, gt_iff_lt, Bool.not_eq_true', Bool.not_eq_false', Int.not_lt, Int.not_le, ne_eq] at *)
      all_goals (try dsimp only [Ty.den, Ty.dflt, VerT] at *)
      all_goals (try simp only [eq4, ne4, eq3, ne3, eq2, ne2, Prod.eta, List.length_cons, List.length_nil, List.length_append, Nat.zero_add] at *)
      all_goals (try simp (disch := omega) only [wrap64] at *)
      all_goals try first | exact leafDraw (by kernel_rfl) | exact Leaf.mk trivial | (refine Leaf.mk ?_; omega) | (refine Leaf.mk ?_; unfold maxLen; omega)
      · refine Leaf.mk ⟨i + 1, ?_, by omega, by omega⟩
        rw [countP_at ver0 (by omega), if_pos (decide_eq_true (by
          show c.getD i ver0 ∈ w
          rw [show c.getD i ver0 = w.getD k ver0 from h]; exact getD_mem ver0 (by omega)))]
        rfl
      · refine Leaf.mk ⟨k + 1, rfl, ⟨by omega, fun j hj => ?_⟩, by omega⟩
        rcases Nat.lt_or_ge j k with hjk | hjk
        · exact hn j hjk
        · obtain rfl : j = k := by omega
          exact h
      · refine Leaf.mk ⟨i + 1, ?_, by omega, by omega⟩
        rw [countP_at ver0 (by omega), if_neg (by
          rw [decide_eq_true_iff]
          intro hm
          obtain ⟨j, hj, e⟩ := List.mem_iff_getElem.1 hm
          refine hn j (by omega) ?_
          rw [List.getD_eq_getElem?_getD (l := w), List.getElem?_eq_getElem hj]
          exact e.symm)]
        rfl
    all_goals
      have hT : (c.take i).countP (fun v => decide (v ∈ w)) = c.countP (fun v => decide (v ∈ w)) := by rw [List.take_of_length_le (by omega)]
      simp only [hT] at *
      first
      | (have := hcnt2 ‹w.any (roomP txn) = false›; omega)
      | omega
end Go.Proofs.Ytlfehkoklgmjjaa
