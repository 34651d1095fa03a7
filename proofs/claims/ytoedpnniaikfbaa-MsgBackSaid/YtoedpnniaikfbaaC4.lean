import Derived.Test.YtoedpnniaikfbaaC3



set_option linter.unusedVariables false
set_option linter.unusedSimpArgs false
set_option maxRecDepth 8000
namespace Go.Proofs.Ytoedpnniaikfbaa
open Go.Eng
def slotN (ts : Int) (ys : List Ver) : Nat → Nat
  | 0 => 0
  | n + 1 => if (ys.getD n ver0).2.1 = 0 ∨ ts < (ys.getD n ver0).2.1 then slotN ts ys n else n + 1
def cut (xs : List Ver) (i : Nat) : List Ver := xs.take i ++ xs.drop (i + 1)
def commit (s : Stk) (me ts : Int) : Stk :=
  if idxF (roomP me) s.2 0 < 0 ∨ ts < 1 then s else
    (s.1, (cut s.2 (idxF (roomP me) s.2 0).toNat).take (slotN ts (cut s.2 (idxF (roomP me) s.2 0).toNat) (cut s.2 (idxF (roomP me) s.2 0).toNat).length) ++ ([((s.2.getD (idxF (roomP me) s.2 0).toNat ver0).1, ts, (s.2.getD (idxF (roomP me) s.2 0).toNat ver0).2.2)] ++ (cut s.2 (idxF (roomP me) s.2 0).toNat).drop (slotN ts (cut s.2 (idxF (roomP me) s.2 0).toNat) (cut s.2 (idxF (roomP me) s.2 0).toNat).length)))
theorem slotN_le {ts : Int} {ys : List Ver} : ∀ (n : Nat), slotN ts ys n ≤ n
  | 0 => Nat.le_refl _
  | n + 1 => by
    have := slotN_le (ts := ts) (ys := ys) n
    unfold slotN
    split <;> omega
def sCommit : PSpec := ⟨[.d StT, .d (.int .i64), .d (.int .i64)], [⟨true, [.d .str, .o 93 VerT]⟩], fun x => List.length x.1.2 ≤ 100000, fun x => (((commit x.1 x.2.1 x.2.2.1).1, ((commit x.1 x.2.1 x.2.2.1).2, ())), ())⟩
theorem fCommit : FnOk Try.prog 59 := ⟨_, Try.func59, by decide, rfl⟩
theorem pCommit : PSound Try.prog 59 sCommit := by
  refine psound (T := tab) (S := (spOf [(113, sOwn.spec (lsOf [])), (114, sPlace.spec (lsOf [])), (115, sDeleteV.spec), (116, sInsertV.spec)])) (keep := k59) (by kernel_rfl) tabOk (spCons (pOk pOwn fOwn (by decide) lsNil) (spCons (pOk pPlace fPlace (by decide) lsNil) (spCons (.inl ⟨pDeleteV, fDeleteV⟩) (spCons (.inl ⟨pInsertV, fInsertV⟩) spNil)))) (by kernel_rfl) Try.func59 (by kernel_rfl) (by decide) fun xs hg hp => ?_
  obtain ⟨⟨key, xs⟩, me, ts, ⟨⟩⟩ := xs
  change List UInt8 at key
  change List Ver at xs
  change Int at me
  change Int at ts
  change xs.length ≤ 100000 at hp
  have hz := idxF_pos (roomP me) xs 0
  show vfun tab _ k59 Try.f59 [.agg [.s key, .sl VerT xs], .i .i64 me, .i .i64 ts] [] _
  refine Ev.out ?_
  repeat' (first | ((with_reducible refine Ev.mk ?_); conv => whnf) | (with_reducible refine And.intro ?_ ?_) | (intro h))
  all_goals (try simp only [decide_eq_true_eq, decide_eq_false_iff_not, beq_iff_eq, bne_iff_ne, beq_eq_false_iff_ne, bne_eq_false_iff_eq, Int.toNat_natCast, ge_iff_le, gt_iff_lt, Bool.not_eq_true', Bool.not_eq_false', Int.not_lt, Int.not_le, ne_eq] at *)
  all_goals (try dsimp only [Ty.den, Ty.dflt, VerT, sOwn, sPlace] at *)
  all_goals (try simp only [eq4, ne4, eq3, ne3, eq2, ne2, Prod.eta, List.length_cons, List.length_nil, List.length_append, Nat.zero_add] at *)
  all_goals (try simp (disch := omega) only [wrap64] at *)
  all_goals try first | exact leafDraw (by kernel_rfl) | exact Leaf.mk trivial | (refine Leaf.mk ?_; omega) | (refine Leaf.mk ?_; unfold maxLen; omega)
  · refine Leaf.mk (retS (s := commit (key, xs) me ts) ?_)
    exact (if_pos (.inl h)).symm
  · refine Leaf.mk (retS (s := commit (key, xs) me ts) ?_)
    exact (if_pos (.inr h)).symm
  · refine Leaf.mk (?_ : 0 ≤ idxF (roomP me) xs 0 ∧ idxF (roomP me) xs 0 ≤ idxF (roomP me) xs 0 + 1 ∧ idxF (roomP me) xs 0 + 1 ≤ (xs.length : Int) ∧ xs.length ≤ 1000000)
    omega
  obtain ⟨p, hp0⟩ := Int.eq_ofNat_of_zero_le (show 0 ≤ idxF (roomP me) xs 0 by omega)
  have hpl : p < xs.length := by omega
  have hC : commit (key, xs) me ts = (key, (cut xs p).take (slotN ts (cut xs p) (cut xs p).length) ++ ([((xs.getD p ver0).1, ts, (xs.getD p ver0).2.2)] ++ (cut xs p).drop (slotN ts (cut xs p) (cut xs p).length))) := by
    refine (if_neg (show ¬ (idxF (roomP me) xs 0 < 0 ∨ ts < 1) by omega)).trans ?_
    show (key, _) = _
    dsimp only
    rw [hp0, Int.toNat_natCast]
  have hD : sDeleteV.fn xs (idxF (roomP me) xs 0, idxF (roomP me) xs 0 + 1, ()) = cut xs p := by
    show xs.take (idxF (roomP me) xs 0).toNat ++ xs.drop (idxF (roomP me) xs 0 + 1).toNat = _
    rw [show (idxF (roomP me) xs 0).toNat = p by omega, show (idxF (roomP me) xs 0 + 1).toNat = p + 1 by omega]; rfl
  rw [show (idxF (roomP me) xs 0).toNat = p by omega]
  have hyl : (cut xs p).length ≤ 100000 := by simp [cut]; omega
  generalize hys : cut xs p = ys at *
  refine LoopVC.on (fun n : Nat => [(9, .i .i64 n)]) (fun _ => [(3, .arr 93 VerT ys)]) (fun n => n ≤ ys.length ∧ slotN ts ys ys.length = slotN ts ys n) (fun n => n) ys.length (by rw [← hD]; rfl) ⟨Nat.le_refl _, rfl⟩ ?_
  intro n ⟨hn, he⟩
  repeat' (first | ((with_reducible refine Ev.mk ?_); conv => whnf) | (with_reducible refine And.intro ?_ ?_) | (intro h))
  all_goals (try simp only [decide_eq_true_eq, decide_eq_false_iff_not, beq_iff_eq, bne_iff_ne, beq_eq_false_iff_ne, bne_eq_false_iff_eq, Int.toNat_natCast, ge_iff_le, gt_iff_lt, Bool.not_eq_true', Bool.not_eq_false', Int.not_lt, Int.not_le, ne_eq] at *)
  all_goals (try dsimp only [Ty.den, Ty.dflt, VerT] at *)
  all_goals (try simp only [eq4, ne4, eq3, ne3, eq2, ne2, Prod.eta, List.length_cons, List.length_nil, List.length_append, Nat.zero_add] at *)
  all_goals (try simp (disch := omega) only [wrap64] at *)
  all_goals try first | exact leafDraw (by kernel_rfl) | exact Leaf.mk trivial | (refine Leaf.mk ?_; omega) | (refine Leaf.mk ?_; unfold maxLen; omega)
  all_goals first
    | (refine Leaf.mk (?_ : (0 : Int) ≤ (n : Int) ∧ (n : Int) ≤ (ys.length : Int) ∧ ys.length + 1 ≤ 1000000); omega)
    | skip
  · obtain ⟨m, rfl⟩ : ∃ m, n = m + 1 := ⟨n - 1, by omega⟩
    have e : (((m + 1 : Nat) : Int) - 1).toNat = m := by omega
    rw [e] at h
    rw [show ((m + 1 : Nat) : Int) - 1 = (m : Nat) by omega]
    refine Leaf.mk ⟨m, rfl, ⟨by omega, ?_⟩, by omega⟩
    rw [he, slotN, if_pos (.inl h)]
  · obtain ⟨m, rfl⟩ : ∃ m, n = m + 1 := ⟨n - 1, by omega⟩
    have e : (((m + 1 : Nat) : Int) - 1).toNat = m := by omega
    rw [e] at h
    rw [show ((m + 1 : Nat) : Int) - 1 = (m : Nat) by omega]
    refine Leaf.mk ⟨m, rfl, ⟨by omega, ?_⟩, by omega⟩
    rw [he, slotN, if_pos (.inr h)]
  · obtain ⟨m, rfl⟩ : ∃ m, n = m + 1 := ⟨n - 1, by omega⟩
    have e : (((m + 1 : Nat) : Int) - 1).toNat = m := by omega
    rename_i hnz
    rw [e] at h hnz
    have hs : slotN ts ys ys.length = m + 1 := by
      rw [he, slotN, if_neg (fun hc => ?_)]
      rcases hc with hc | hc
      · exact hnz hc
      · exact absurd hc (Int.not_lt.2 h)
    refine Leaf.mk (retS (s := commit (key, xs) me ts) ?_)
    rw [hC, hs]
    rfl
  · obtain rfl : n = 0 := by omega
    have hs : slotN ts ys ys.length = 0 := by rw [he, slotN]
    refine Leaf.mk (retS (s := commit (key, xs) me ts) ?_)
    rw [hC, hs]
    rfl
def lastN (at' : Int) (xs : List Ver) : Nat → Int
  | 0 => -1
  | n + 1 => if okTs at' (xs.getD n ver0) = true then n else lastN at' xs n
def dropP (at' last : Int) (n : Nat) (v : Ver) : Bool := okTs at' v && ((n : Int) != last || v.2.2.1)
def keepN (at' last : Int) (xs : List Ver) : Nat → List Ver
  | 0 => []
  | n + 1 => keepN at' last xs n ++ (if dropP at' last n (xs.getD n ver0) = true then [] else [xs.getD n ver0])
def prune (s : Stk) (at' : Int) : Stk := (s.1, keepN at' (lastN at' s.2 s.2.length) s.2 s.2.length)
theorem keepN_le (at' last : Int) (xs : List Ver) : ∀ n, (keepN at' last xs n).length ≤ n
  | 0 => Nat.le_refl _
  | n + 1 => by
    have := keepN_le at' last xs n
    unfold keepN
    rw [List.length_append]
    split <;> simp <;> omega
theorem fPrune1 : FnOk Try.prog 119 := ⟨_, Try.func119, by decide, rfl⟩
noncomputable def iPrune1 : Eng.Spec := inl tab (spOf []) k119 Try.f119
theorem pPrune1 : SpecOk Try.prog 119 iPrune1 := inl_ok tabOk spNil (by kernel_rfl) Try.func119 (by kernel_rfl)
theorem fPrune2 : FnOk Try.prog 120 := ⟨_, Try.func120, by decide, rfl⟩
noncomputable def iPrune2 : Eng.Spec := inl tab (spOf [(119, iPrune1)]) k120 Try.f120
theorem pPrune2 : SpecOk Try.prog 120 iPrune2 := inl_ok tabOk (spCons (.inl ⟨pPrune1, fPrune1⟩) spNil) (by kernel_rfl) Try.func120 (by kernel_rfl)
theorem fWithoutV : FnOk Try.prog 117 := ⟨_, Try.func117, by decide, rfl⟩
noncomputable def iWithoutV : Eng.Spec := inl tab (spOf [(120, iPrune2)]) k117 Try.f117
theorem pWithoutV : SpecOk Try.prog 117 iWithoutV := inl_ok tabOk (spCons (.inl ⟨pPrune2, fPrune2⟩) spNil) (by kernel_rfl) Try.func117 (by kernel_rfl)
def sPrune : PSpec := ⟨[.d StT, .d (.int .i64)], [⟨true, [.d .str, .o 93 VerT]⟩], fun x => List.length x.1.2 ≤ 100000, fun x => (((prune x.1 x.2.1).1, ((prune x.1 x.2.1).2, ())), ())⟩
theorem fPrune : FnOk Try.prog 61 := ⟨_, Try.func61, by decide, rfl⟩
theorem pPrune : PSound Try.prog 61 sPrune := by
  refine psound (T := tab) (S := (spOf [(119, iPrune1), (117, iWithoutV)])) (keep := k61) (by kernel_rfl) tabOk (spCons (.inl ⟨pPrune1, fPrune1⟩) (spCons (.inl ⟨pWithoutV, fWithoutV⟩) spNil)) (by kernel_rfl) Try.func61 (by kernel_rfl) (by decide) fun xs hg hp => ?_
  obtain ⟨⟨key, xs⟩, at', ⟨⟩⟩ := xs
  change List UInt8 at key
  change List Ver at xs
  change Int at at'
  change xs.length ≤ 100000 at hp
  show vfun tab _ k61 Try.f61 [.agg [.s key, .sl VerT xs], .i .i64 at'] [] _
  refine Ev.out ?_
  repeat' (first | ((with_reducible refine Ev.mk ?_); conv => whnf) | (with_reducible refine And.intro ?_ ?_) | (intro h))
  all_goals (try simp only [decide_eq_true_eq, decide_eq_false_iff_not, beq_iff_eq, bne_iff_ne, beq_eq_false_iff_ne, bne_eq_false_iff_eq, Int.toNat_natCast, ge_iff_le, gt_iff_lt, Bool.not_eq_true', Bool.not_eq_false', Int.not_lt, Int.not_le, ne_eq] at *)
  all_goals (try dsimp only [Ty.den, Ty.dflt, VerT] at *)
  all_goals (try simp only [eq4, ne4, eq3, ne3, eq2, ne2, Prod.eta, List.length_cons, List.length_nil, List.length_append, Nat.zero_add] at *)
  all_goals (try simp (disch := omega) only [wrap64] at *)
  all_goals try first | exact leafDraw (by kernel_rfl) | exact Leaf.mk trivial | (refine Leaf.mk ?_; omega) | (refine Leaf.mk ?_; unfold maxLen; omega)
  refine LoopVC.on (fun i : Nat => [(13, .i .i64 i)]) (fun i => [(3, .box [.i .i64 (lastN at' xs i)])]) (fun i => i ≤ xs.length) (fun i => xs.length - i) 0 rfl (by omega) ?_
  intro i hi
  repeat' (first | ((with_reducible refine Ev.mk ?_); conv => whnf) | (with_reducible refine And.intro ?_ ?_) | (intro h))
  all_goals (try simp only [decide_eq_true_eq, decide_eq_false_iff_not, beq_iff_eq, bne_iff_ne, beq_eq_false_iff_ne, bne_eq_false_iff_eq, Int.toNat_natCast, ge_iff_le, gt_iff_lt, Bool.not_eq_true', Bool.not_eq_false', Int.not_lt, Int.not_le, ne_eq] at *)
  all_goals (try dsimp only [Ty.den, Ty.dflt, VerT] at *)
  all_goals (try simp only [eq4, ne4, eq3, ne3, eq2, ne2, Prod.eta, List.length_cons, List.length_nil, List.length_append, Nat.zero_add] at *)
  all_goals (try simp (disch := omega) only [wrap64] at *)
  all_goals try first | exact leafDraw (by kernel_rfl) | exact Leaf.mk trivial | (refine Leaf.mk ?_; omega) | (refine Leaf.mk ?_; unfold maxLen; omega)
  · refine Leaf.mk ⟨i + 1, ?_, by omega, by omega⟩
    rw [lastN, if_pos (show okTs at' (xs.getD i ver0) = true from decide_eq_true ⟨‹_›, ‹_›⟩)]; rfl
  · refine Leaf.mk ⟨i + 1, ?_, by omega, by omega⟩
    rw [lastN, if_neg (show ¬ okTs at' (xs.getD i ver0) = true from fun hc => by have := of_decide_eq_true hc; dsimp only [ver0] at *; omega)]; rfl
  · refine Leaf.mk ⟨i + 1, ?_, by omega, by omega⟩
    rw [lastN, if_neg (show ¬ okTs at' (xs.getD i ver0) = true from fun hc => by have := of_decide_eq_true hc; dsimp only [ver0] at *; omega)]; rfl
  have hil : i = xs.length := by omega
  clear h hi
  subst hil
  obtain ⟨last, hlast⟩ : ∃ last, lastN at' xs xs.length = last := ⟨_, rfl⟩
  have hP : prune (key, xs) at' = (key, keepN at' last xs xs.length) := by rw [← hlast]; rfl
  rw [hlast]
  refine LoopVC.weak [(.slot 5, .nil 93 VerT)] (fun i : Nat => [(10, .i .i64 i)]) (fun i => [(29, .arr 93 VerT (keepN at' last xs i))]) (fun i => i ≤ xs.length) (fun i => xs.length - i) 0 (Ev.mk ?_)
  (conv => whnf)
  refine ⟨Leaf.mk rfl, Leaf.mk ?_, ?_⟩
  · omega
  intro i hi
  have hk := keepN_le at' last xs i
  repeat' (first | ((with_reducible refine Ev.mk ?_); conv => whnf) | (with_reducible refine And.intro ?_ ?_) | (intro h))
  all_goals (try simp only [decide_eq_true_eq, decide_eq_false_iff_not, beq_iff_eq, bne_iff_ne, beq_eq_false_iff_ne, bne_eq_false_iff_eq, Int.toNat_natCast, ge_iff_le, gt_iff_lt, Bool.not_eq_true', Bool.not_eq_false', Int.not_lt, Int.not_le, ne_eq] at *)
  all_goals (try dsimp only [Ty.den, Ty.dflt, VerT] at *)
  all_goals (try simp only [eq4, ne4, eq3, ne3, eq2, ne2, Prod.eta, List.length_cons, List.length_nil, List.length_append, Nat.zero_add] at *)
  all_goals (try simp (disch := omega) only [wrap64] at *)
  all_goals try first | exact leafDraw (by kernel_rfl) | exact Leaf.mk trivial | (refine Leaf.mk ?_; omega) | (refine Leaf.mk ?_; unfold maxLen; omega)
  all_goals first
    | (have hil : i = xs.length := by omega
       subst hil
       refine Leaf.mk (retS (s := prune (key, xs) at') ?_)
       rw [hP])
    | (refine Leaf.mk ⟨i + 1, ?_, by omega, by omega⟩
       rw [keepN]
       first
       | (rw [if_pos (show dropP at' last i (xs.getD i ver0) = true from ?_), List.append_nil]
          · rfl
          · simp only [dropP, okTs, ver0, Bool.and_eq_true, Bool.or_eq_true, decide_eq_true_eq, bne_iff_ne]
            first | exact ⟨⟨‹_›, ‹_›⟩, .inl ‹_›⟩ | exact ⟨⟨‹_›, ‹_›⟩, .inr ‹_›⟩)
       | (rw [if_neg (show ¬ dropP at' last i (xs.getD i ver0) = true from ?_)]
          · rfl
          · simp only [dropP, okTs, ver0, Bool.and_eq_true, Bool.or_eq_true, decide_eq_true_eq, bne_iff_ne]
            intro hc
            first | omega | (rcases hc.2 with hc | hc; exact hc ‹_›; rw [hc] at h; cases h)))
end Go.Proofs.Ytoedpnniaikfbaa
