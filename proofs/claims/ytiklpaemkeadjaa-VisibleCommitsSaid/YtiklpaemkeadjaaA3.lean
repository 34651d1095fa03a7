import Derived.Test.YtiklpaemkeadjaaA2

set_option linter.unusedVariables false
set_option linter.unusedSimpArgs false
namespace Go.Proofs.Ytiklpaemkeadjaa
open Go.Eng
theorem which_pos (s : Stk) (me at' : Int) : which s me at' = -1 ∨ (0 ≤ which s me at' ∧ which s me at' < s.2.length) := by
  have h1 := idxF_pos (pend me) s.2 0
  have h2 := bestL_pos at' s.2 0
  unfold which
  split <;> omega
def readV (s : Stk) (me at' : Int) : List UInt8 × Bool :=
  if which s me at' = -1 ∨ (s.2.getD (which s me at').toNat (0, 0, false, [])).2.2.1 = true then ([], false) else ((s.2.getD (which s me at').toNat (0, 0, false, [])).2.2.2, true)
def sRead : PSpec := ⟨[.d StT, .d (.int .i64), .d (.int .i64)], [⟨false, [.d .str]⟩, ⟨false, [.d .bool]⟩], fun _ => True, fun x => (((readV x.1 x.2.1 x.2.2.1).1, ()), ((readV x.1 x.2.1 x.2.2.1).2, ()), ())⟩
def sReadR : PSpec := sRead
theorem fRead : FnOk Try.prog 17 := ⟨_, Try.func17, by decide, rfl⟩
theorem pRead : PSound Try.prog 17 sRead := by
  refine psound (T := tab) (S := (spOf [(19, sWhich.spec (lsOf []))])) (keep := k17) (by kernel_rfl) tabOk (spCons (pOk pWhich fWhich (by decide) lsNil) spNil) (by kernel_rfl) Try.func17 (by kernel_rfl) (by decide) fun xs hg hp => ?_
  obtain ⟨⟨key, xs⟩, me, at', ⟨⟩⟩ := xs
  obtain ⟨⟨hk, hl, hx⟩, hg⟩ := hg
  change List UInt8 at key
  change List Ver at xs
  change Int at me
  change Int at at'
  have hl := len63 hl
  clear hp
  have hw := which_pos (key, xs) me at'
  dsimp only at hw
  show vfun tab _ k17 Try.f17 [.agg [.s key, .sl VerT xs], .i .i64 me, .i .i64 at'] [] _
  refine Ev.out ?_
  repeat' (first | ((with_reducible refine Ev.mk ?_); conv => whnf) | (with_reducible refine And.intro ?_ ?_) | (intro h))
  all_goals (try simp only [decide_eq_true_eq, decide_eq_false_iff_not, beq_iff_eq, bne_iff_ne, beq_eq_false_iff_ne, bne_eq_false_iff_eq, Int.toNat_natCast, ge_iff_le, gt_iff_lt, Bool.not_eq_true', Bool.not_eq_false', Int.not_lt, Int.not_le, ne_eq] at *)
  all_goals (try dsimp only [Ty.den, Ty.dflt, VerT, sWhich, sWhichR] at *)
  all_goals (try simp only [eq4, ne4, eq3, ne3, eq2, ne2, Prod.eta, List.length_cons, List.length_nil, List.length_append, Nat.zero_add] at *)
  all_goals (try simp (disch := omega) only [wrap64] at *)
  all_goals try first | exact leafDraw (by kernel_rfl) | exact Leaf.mk trivial | (refine Leaf.mk ?_; omega) | (refine Leaf.mk ?_; unfold maxLen; omega)
  all_goals first
    | exact Leaf.mk trivial
    | (refine Leaf.mk (ret2 (a := []) (b := false) ?_ ?_) <;> (rw [readV, if_pos]; first | (left; show which (key, xs) me at' = -1; omega) | (right; assumption)))
    | (refine Leaf.mk (ret2 (b := true) ?_ ?_) <;> (rw [readV, if_neg]; intro hc; rcases hc with hc | hc <;> first | omega | simp_all))
theorem fReadR : FnOk Try.prog 18 := ⟨_, Try.func18, by decide, rfl⟩
theorem pReadR : PSound Try.prog 18 sReadR := by
  refine psound (T := tab) (S := (spOf [(20, sWhichR.spec (lsOf []))])) (keep := k18) (by kernel_rfl) tabOk (spCons (pOk pWhichR fWhichR (by decide) lsNil) spNil) (by kernel_rfl) Try.func18 (by kernel_rfl) (by decide) fun xs hg hp => ?_
  obtain ⟨⟨key, xs⟩, me, at', ⟨⟩⟩ := xs
  obtain ⟨⟨hk, hl, hx⟩, hg⟩ := hg
  change List UInt8 at key
  change List Ver at xs
  change Int at me
  change Int at at'
  have hl := len63 hl
  clear hp
  have hw := which_pos (key, xs) me at'
  dsimp only at hw
  show vfun tab _ k18 Try.f18 [.agg [.s key, .sl VerT xs], .i .i64 me, .i .i64 at'] [] _
  refine Ev.out ?_
  repeat' (first | ((with_reducible refine Ev.mk ?_); conv => whnf) | (with_reducible refine And.intro ?_ ?_) | (intro h))
  all_goals (try simp only [decide_eq_true_eq, decide_eq_false_iff_not, beq_iff_eq, bne_iff_ne, beq_eq_false_iff_ne, bne_eq_false_iff_eq, Int.toNat_natCast, ge_iff_le, gt_iff_lt, Bool.not_eq_true', Bool.not_eq_false', Int.not_lt, Int.not_le, ne_eq] at *)
  all_goals (try dsimp only [Ty.den, Ty.dflt, VerT, sWhich, sWhichR] at *)
  all_goals (try simp only [eq4, ne4, eq3, ne3, eq2, ne2, Prod.eta, List.length_cons, List.length_nil, List.length_append, Nat.zero_add] at *)
  all_goals (try simp (disch := omega) only [wrap64] at *)
  all_goals try first | exact leafDraw (by kernel_rfl) | exact Leaf.mk trivial | (refine Leaf.mk ?_; omega) | (refine Leaf.mk ?_; unfold maxLen; omega)
  all_goals first
    | exact Leaf.mk trivial
    | (refine Leaf.mk (ret2 (a := []) (b := false) ?_ ?_) <;> (rw [readV, if_pos]; first | (left; show which (key, xs) me at' = -1; omega) | (right; assumption)))
    | (refine Leaf.mk (ret2 (b := true) ?_ ?_) <;> (rw [readV, if_neg]; intro hc; rcases hc with hc | hc <;> first | omega | simp_all))
theorem noSp : SpecsOk Try.prog (fun _ => none) := fun f s h => by cases h
def lightV (v : Ver) : Bool := decide (v.2.2.2.length ≤ 100)
def light (s : Stk) : Bool := decide (s.1.length ≤ 100) && (decide (s.2.length ≤ 12) && s.2.all lightV)
def sLight : PSpec := ⟨[.d StT], [⟨false, [.d .bool]⟩], fun _ => True, fun x => ((light x.1, ()), ())⟩
theorem fLight : FnOk Try.prog 15 := ⟨_, Try.func15, by decide, rfl⟩
theorem pLight : PSound Try.prog 15 sLight := by
  refine psound (T := tab) (S := (spOf [])) (keep := k15) (by kernel_rfl) tabOk spNil (by kernel_rfl) Try.func15 (by kernel_rfl) (by decide) fun xs hg hp => ?_
  obtain ⟨⟨key, xs⟩, ⟨⟩⟩ := xs
  obtain ⟨⟨hk, hl, hx⟩, hg⟩ := hg
  change List UInt8 at key
  change List Ver at xs
  have hl := len63 hl
  clear hp
  show vfun tab _ k15 Try.f15 [.agg [.s key, .sl VerT xs]] [] _
  refine Ev.out ?_
  repeat' (first | ((with_reducible refine Ev.mk ?_); conv => whnf) | (with_reducible refine And.intro ?_ ?_) | (intro h))
  all_goals (try simp only [decide_eq_true_eq, decide_eq_false_iff_not, beq_iff_eq, bne_iff_ne, beq_eq_false_iff_ne, bne_eq_false_iff_eq, Int.toNat_natCast, ge_iff_le, gt_iff_lt, Bool.not_eq_true', Bool.not_eq_false', Int.not_lt, Int.not_le, ne_eq] at *)
  all_goals (try dsimp only [Ty.den, Ty.dflt, VerT] at *)
  all_goals (try simp only [eq4, ne4, eq3, ne3, eq2, ne2, Prod.eta, List.length_cons, List.length_nil, List.length_append, Nat.zero_add] at *)
  all_goals (try simp (disch := omega) only [wrap64] at *)
  · refine Leaf.mk (ret1 (?_ : false = light (key, xs)))
    simp only [light]; rw [show decide (key.length ≤ 100) = false by simp; omega]; rfl
  · refine Leaf.mk (ret1 (?_ : false = light (key, xs)))
    simp only [light]; rw [show decide (xs.length ≤ 12) = false by simp; omega]; simp
  · have h0 : light (key, xs) = xs.all lightV := by
      simp only [light]; rw [show decide (xs.length ≤ 12) = true by simp; omega, show decide (key.length ≤ 100) = true by simp; omega]; simp
    refine LoopVC.on (fun i : Nat => [(3, .i .i64 i)]) (fun _ => []) (fun i => i ≤ xs.length ∧ light (key, xs) = (xs.drop i).all lightV) (fun i => xs.length - i) 0 rfl ⟨by omega, by simp [h0]⟩ ?_
    intro i ⟨hi, he⟩
    repeat' (first | ((with_reducible refine Ev.mk ?_); conv => whnf) | (with_reducible refine And.intro ?_ ?_) | (intro h))
    all_goals (try simp only [decide_eq_true_eq, decide_eq_false_iff_not, beq_iff_eq, bne_iff_ne, beq_eq_false_iff_ne, bne_eq_false_iff_eq, Int.toNat_natCast, ge_iff_le, gt_iff_lt, Bool.not_eq_true', Bool.not_eq_false', Int.not_lt, Int.not_le, ne_eq] at *)
    all_goals (try dsimp only [Ty.den, Ty.dflt, VerT] at *)
    all_goals (try simp only [eq4, ne4, eq3, ne3, eq2, ne2, Prod.eta, List.length_cons, List.length_nil, List.length_append, Nat.zero_add] at *)
    all_goals (try simp (disch := omega) only [wrap64] at *)
    all_goals try first | exact leafDraw (by kernel_rfl) | exact Leaf.mk trivial | (refine Leaf.mk ?_; omega) | (refine Leaf.mk ?_; unfold maxLen; omega)
    all_goals first
      | (rw [all_end (by omega)] at he; exact Leaf.mk (ret1 he.symm))
      | (rw [all_hit (0, 0, false, []) (by omega) (by simp only [lightV, decide_eq_false_iff_not]; omega)] at he; exact Leaf.mk (ret1 he.symm))
      | (rw [all_skip (0, 0, false, []) (by omega) (by simp only [lightV, decide_eq_true_eq]; omega)] at he; exact Leaf.mk ⟨i + 1, rfl, ⟨by omega, he⟩, by omega⟩)
def sIndexFunc : PSpec := ⟨[.d (.slice VerT), .lam VerT .bool], [⟨false, [.d (.int .i64)]⟩], fun _ => True, fun x => ((idxF x.2.1 x.1 0, ()), ())⟩
theorem fIndexFunc : FnOk Try.prog 77 := ⟨_, Try.func77, by decide, rfl⟩
theorem pIndexFunc : PSound Try.prog 77 sIndexFunc := by
  refine psound (T := tab) (S := (spOf [])) (keep := k77) (by kernel_rfl) tabOk spNil (by kernel_rfl) Try.func77 (by kernel_rfl) (by decide) fun xs hg hp => ?_
  obtain ⟨xs, p, ⟨⟩⟩ := xs
  obtain ⟨⟨hl, -⟩, -⟩ := hg
  change List Ver at xs
  change Ver → Bool at p
  have hl := len63 hl
  clear hp
  show vfun tab _ k77 Try.f77 [.sl VerT xs, .lam VerT .bool p] [] _
  refine Ev.out ?_
  repeat' (first | ((with_reducible refine Ev.mk ?_); conv => whnf) | (with_reducible refine And.intro ?_ ?_) | (intro h))
  refine LoopVC.on (fun i : Nat => [(8, .i .i64 i)]) (fun _ => []) (fun i => i ≤ xs.length ∧ idxF p xs 0 = idxF p (xs.drop i) i) (fun i => xs.length - i) 0 rfl ⟨by omega, by simp⟩ ?_
  intro i ⟨hi, he⟩
  repeat' (first | ((with_reducible refine Ev.mk ?_); conv => whnf) | (with_reducible refine And.intro ?_ ?_) | (intro h))
  all_goals (try simp only [decide_eq_true_eq, decide_eq_false_iff_not, beq_iff_eq, bne_iff_ne, beq_eq_false_iff_ne, bne_eq_false_iff_eq, Int.toNat_natCast, ge_iff_le, gt_iff_lt, Bool.not_eq_true', Bool.not_eq_false', Int.not_lt, Int.not_le, ne_eq] at *)
  all_goals (try dsimp only [Ty.den, Ty.dflt, VerT] at *)
  all_goals (try simp only [eq4, ne4, eq3, ne3, eq2, ne2, Prod.eta, List.length_cons, List.length_nil, List.length_append, Nat.zero_add] at *)
  all_goals (try simp (disch := omega) only [wrap64] at *)
  all_goals try first | exact leafDraw (by kernel_rfl) | exact Leaf.mk trivial | (refine Leaf.mk ?_; omega) | (refine Leaf.mk ?_; unfold maxLen; omega)
  all_goals first
    | (rw [drop_end (by omega)] at he; exact Leaf.mk (ret1 he.symm))
    | (rw [drop_at (0, 0, false, []) (by omega), idxF, if_pos (by assumption)] at he; exact Leaf.mk (ret1 he.symm))
    | (rw [drop_at (0, 0, false, []) (by omega), idxF, if_neg (by simp_all)] at he; exact Leaf.mk ⟨i + 1, rfl, ⟨by omega, he⟩, by omega⟩)
def sContainsFunc : PSpec := ⟨[.d (.slice VerT), .lam VerT .bool], [⟨false, [.d .bool]⟩], fun _ => True, fun x => ((List.any x.1 x.2.1, ()), ())⟩
theorem idxF_iff {α : Type} {p : α → Bool} : ∀ (l : List α) (i : Nat), 0 ≤ idxF p l i ↔ l.any p = true
  | [], i => by simp [idxF]
  | x :: r, i => by
    unfold idxF
    by_cases h : p x = true
    · rw [if_pos h]; simp [h]
    · have h' : p x = false := by simpa using h
      rw [if_neg h, List.any_cons, h', idxF_iff r (i + 1)]; simp
theorem idxF_any {α : Type} {p : α → Bool} (l : List α) (i : Nat) : decide (idxF p l i ≥ 0) = l.any p := by
  by_cases h : l.any p = true
  · rw [h]; exact decide_eq_true ((idxF_iff l i).2 h)
  · have h' : l.any p = false := by simpa using h
    rw [h']; exact decide_eq_false (fun hc => h ((idxF_iff l i).1 hc))
theorem fContainsFunc : FnOk Try.prog 53 := ⟨_, Try.func53, by decide, rfl⟩
theorem pContainsFunc : PSound Try.prog 53 sContainsFunc := by
  refine psound (T := tab) (S := (spOf [(77, sIndexFunc.spec (lsOf []))])) (keep := k53) (by kernel_rfl) tabOk (spCons (pOk pIndexFunc fIndexFunc (by decide) lsNil) spNil) (by kernel_rfl) Try.func53 (by kernel_rfl) (by decide) fun xs hg hp => ?_
  obtain ⟨xs, p, ⟨⟩⟩ := xs
  change List Ver at xs
  change Ver → Bool at p
  show vfun tab _ k53 Try.f53 [.sl VerT xs, .lam VerT .bool p] [] _
  refine Ev.out ?_
  repeat' (first | ((with_reducible refine Ev.mk ?_); conv => whnf) | (with_reducible refine And.intro ?_ ?_) | (intro h))
  · exact Leaf.mk trivial
  · exact Leaf.mk (ret1 (idxF_any xs 0))
def newerP (at' me : Int) (v : Ver) : Bool := decide (at' < v.2.1) && (v.1 != me)
def lNewer1 : LSpec := ⟨VerT, .bool, [.bx (.int .i64), .bx (.int .i64)], fun v c => newerP c.1 c.2.1 v⟩
theorem fNewer1 : FnOk Try.prog 54 := ⟨_, Try.func54, by decide, rfl⟩
theorem pNewer1 : PSound Try.prog 54 lNewer1.p := by
  refine psound (T := tab) (S := (spOf [])) (keep := k54) (by kernel_rfl) tabOk spNil (by kernel_rfl) Try.func54 (by kernel_rfl) (by decide) fun xs hg hp => ?_
  obtain ⟨⟨txn, ts, gone, val⟩, at', me, ⟨⟩⟩ := xs
  show vfun tab _ k54 Try.f54 [.agg [.i .i64 txn, .i .i64 ts, .b gone, .s val], .rp [.i .i64 at'], .rp [.i .i64 me]] [] _
  refine Ev.out ?_
  repeat' (first | ((with_reducible refine Ev.mk ?_); conv => whnf) | (with_reducible refine And.intro ?_ ?_) | (intro h))
  · exact Leaf.mk (ret1 (show (txn != me) = (decide (ts > at') && (txn != me)) by rw [h]; rfl))
  · exact Leaf.mk (ret1 (show false = (decide (ts > at') && (txn != me)) by rw [h]; rfl))
def roomP (me : Int) (v : Ver) : Bool := (v.2.1 == 0) && (v.1 == me)
def lRoom1 : LSpec := ⟨VerT, .bool, [.bx (.int .i64)], fun v c => roomP c.1 v⟩
theorem fRoom1 : FnOk Try.prog 55 := ⟨_, Try.func55, by decide, rfl⟩
theorem pRoom1 : PSound Try.prog 55 lRoom1.p := by
  refine psound (T := tab) (S := (spOf [])) (keep := k55) (by kernel_rfl) tabOk spNil (by kernel_rfl) Try.func55 (by kernel_rfl) (by decide) fun xs hg hp => ?_
  obtain ⟨⟨txn, ts, gone, val⟩, me, ⟨⟩⟩ := xs
  show vfun tab _ k55 Try.f55 [.agg [.i .i64 txn, .i .i64 ts, .b gone, .s val], .rp [.i .i64 me]] [] _
  refine Ev.out ?_
  repeat' (first | ((with_reducible refine Ev.mk ?_); conv => whnf) | (with_reducible refine And.intro ?_ ?_) | (intro h))
  · exact Leaf.mk (ret1 (show (txn == me) = ((ts == 0) && (txn == me)) by rw [h]; rfl))
  · exact Leaf.mk (ret1 (show false = ((ts == 0) && (txn == me)) by rw [h]; rfl))
def newer (s : Stk) (me at' : Int) : Bool := s.2.any (newerP at' me)
def sNewer : PSpec := ⟨[.d StT, .d (.int .i64), .d (.int .i64)], [⟨false, [.d .bool]⟩], fun _ => True, fun x => ((newer x.1 x.2.1 x.2.2.1, ()), ())⟩
theorem fNewer : FnOk Try.prog 21 := ⟨_, Try.func21, by decide, rfl⟩
theorem pNewer : PSound Try.prog 21 sNewer := by
  refine psound (T := tab) (S := (spOf [(53, sContainsFunc.spec (lsOf [(54, lNewer1)]))])) (keep := k21) (by kernel_rfl) tabOk (spCons (pOk pContainsFunc fContainsFunc (by decide) ((lsCons ⟨pNewer1, fNewer1⟩ lsNil))) spNil) (by kernel_rfl) Try.func21 (by kernel_rfl) (by decide) fun xs hg hp => ?_
  obtain ⟨⟨key, xs⟩, me, at', ⟨⟩⟩ := xs
  show vfun tab _ k21 Try.f21 [.agg [.s key, .sl VerT xs], .i .i64 me, .i .i64 at'] [] _
  refine Ev.out ?_
  repeat' (first | ((with_reducible refine Ev.mk ?_); conv => whnf) | (with_reducible refine And.intro ?_ ?_) | (intro h))
  · exact Leaf.mk trivial
  · exact Leaf.mk (ret1 rfl)
def room (s : Stk) (me : Int) : Bool := decide (s.2.length < 8) || s.2.any (roomP me)
def sRoom : PSpec := ⟨[.d StT, .d (.int .i64)], [⟨false, [.d .bool]⟩], fun _ => True, fun x => ((room x.1 x.2.1, ()), ())⟩
theorem fRoom : FnOk Try.prog 23 := ⟨_, Try.func23, by decide, rfl⟩
theorem pRoom : PSound Try.prog 23 sRoom := by
  refine psound (T := tab) (S := (spOf [(53, sContainsFunc.spec (lsOf [(55, lRoom1)]))])) (keep := k23) (by kernel_rfl) tabOk (spCons (pOk pContainsFunc fContainsFunc (by decide) ((lsCons ⟨pRoom1, fRoom1⟩ lsNil))) spNil) (by kernel_rfl) Try.func23 (by kernel_rfl) (by decide) fun xs hg hp => ?_
  obtain ⟨⟨key, xs⟩, me, ⟨⟩⟩ := xs
  change List UInt8 at key
  change List Ver at xs
  show vfun tab _ k23 Try.f23 [.agg [.s key, .sl VerT xs], .i .i64 me] [] _
  refine Ev.out ?_
  repeat' (first | ((with_reducible refine Ev.mk ?_); conv => whnf) | (with_reducible refine And.intro ?_ ?_) | (intro h))
  · refine Leaf.mk (ret1 (show true = room (key, xs) me from ?_))
    change decide ((xs.length : Int) < 8) = true at h
    have : decide (xs.length < 8) = true := by simp only [decide_eq_true_eq] at h ⊢; omega
    simp only [room, this, Bool.true_or]
  · exact Leaf.mk trivial
  · refine Leaf.mk (ret1 (show xs.any (roomP me) = room (key, xs) me from ?_))
    change decide ((xs.length : Int) < 8) = false at h
    have : decide (xs.length < 8) = false := by simp only [decide_eq_false_iff_not] at h ⊢; omega
    simp only [room, this, Bool.false_or]
def sNewerR : PSpec := sNewer
theorem fNewerR : FnOk Try.prog 22 := ⟨_, Try.func22, by decide, rfl⟩
theorem pNewerR : PSound Try.prog 22 sNewerR := by
  refine psound (T := tab) (S := (spOf [])) (keep := k22) (by kernel_rfl) tabOk spNil (by kernel_rfl) Try.func22 (by kernel_rfl) (by decide) fun xs hg hp => ?_
  obtain ⟨⟨key, xs⟩, me, at', ⟨⟩⟩ := xs
  obtain ⟨⟨hk, hl, hx⟩, hg⟩ := hg
  change List UInt8 at key
  change List Ver at xs
  change Int at me
  change Int at at'
  have hl := len63 hl
  clear hp
  show vfun tab _ k22 Try.f22 [.agg [.s key, .sl VerT xs], .i .i64 me, .i .i64 at'] [] _
  refine Ev.out ?_
  repeat' (first | ((with_reducible refine Ev.mk ?_); conv => whnf) | (with_reducible refine And.intro ?_ ?_) | (intro h))
  refine LoopVC.on (fun i : Nat => [(7, .i .i64 i)]) (fun _ => []) (fun i => i ≤ xs.length ∧ newer (key, xs) me at' = (xs.drop i).any (newerP at' me)) (fun i => xs.length - i) 0 rfl ⟨by omega, rfl⟩ ?_
  intro i ⟨hi, he⟩
  repeat' (first | ((with_reducible refine Ev.mk ?_); conv => whnf) | (with_reducible refine And.intro ?_ ?_) | (intro h))
  all_goals (try simp only [decide_eq_true_eq, decide_eq_false_iff_not, beq_iff_eq, bne_iff_ne, beq_eq_false_iff_ne, bne_eq_false_iff_eq, Int.toNat_natCast, ge_iff_le, gt_iff_lt, Bool.not_eq_true', Bool.not_eq_false', Int.not_lt, Int.not_le, ne_eq] at *)
  all_goals (try dsimp only [Ty.den, Ty.dflt, VerT] at *)
  all_goals (try simp only [eq4, ne4, eq3, ne3, eq2, ne2, Prod.eta, List.length_cons, List.length_nil, List.length_append, Nat.zero_add] at *)
  all_goals (try simp (disch := omega) only [wrap64] at *)
  all_goals try first | exact leafDraw (by kernel_rfl) | exact Leaf.mk trivial | (refine Leaf.mk ?_; omega) | (refine Leaf.mk ?_; unfold maxLen; omega)
  all_goals first
    | (rw [any_end (by omega)] at he; exact Leaf.mk (ret1 he.symm))
    | (rw [any_hit (0, 0, false, []) (by omega) (by simp only [newerP, Bool.and_eq_true, decide_eq_true_eq, bne_iff_ne]; omega)] at he; exact Leaf.mk (ret1 he.symm))
    | (rw [any_skip (0, 0, false, []) (by omega) (by rw [← Bool.not_eq_true]; simp only [newerP, Bool.and_eq_true, decide_eq_true_eq, bne_iff_ne]; omega)] at he; exact Leaf.mk ⟨i + 1, rfl, ⟨by omega, he⟩, by omega⟩)
def sRoomR : PSpec := sRoom
theorem fRoomR : FnOk Try.prog 24 := ⟨_, Try.func24, by decide, rfl⟩
theorem pRoomR : PSound Try.prog 24 sRoomR := by
  refine psound (T := tab) (S := (spOf [])) (keep := k24) (by kernel_rfl) tabOk spNil (by kernel_rfl) Try.func24 (by kernel_rfl) (by decide) fun xs hg hp => ?_
  obtain ⟨⟨key, xs⟩, me, ⟨⟩⟩ := xs
  obtain ⟨⟨hk, hl, hx⟩, hg⟩ := hg
  change List UInt8 at key
  change List Ver at xs
  have hl := len63 hl
  clear hp
  change Int at me
  show vfun tab _ k24 Try.f24 [.agg [.s key, .sl VerT xs], .i .i64 me] [] _
  refine Ev.out ?_
  repeat' (first | ((with_reducible refine Ev.mk ?_); conv => whnf) | (with_reducible refine And.intro ?_ ?_) | (intro h))
  refine LoopVC.on (fun i : Nat => [(5, .i .i64 i)]) (fun _ => []) (fun i => i ≤ xs.length ∧ xs.any (roomP me) = (xs.drop i).any (roomP me)) (fun i => xs.length - i) 0 rfl ⟨by omega, rfl⟩ ?_
  intro i ⟨hi, he⟩
  repeat' (first | ((with_reducible refine Ev.mk ?_); conv => whnf) | (with_reducible refine And.intro ?_ ?_) | (intro h))
  all_goals (try simp only [decide_eq_true_eq, decide_eq_false_iff_not, beq_iff_eq, bne_iff_ne, beq_eq_false_iff_ne, bne_eq_false_iff_eq, Int.toNat_natCast, ge_iff_le, gt_iff_lt, Bool.not_eq_true', Bool.not_eq_false', Int.not_lt, Int.not_le, ne_eq] at *)
  all_goals (try dsimp only [Ty.den, Ty.dflt, VerT] at *)
  all_goals (try simp only [eq4, ne4, eq3, ne3, eq2, ne2, Prod.eta, List.length_cons, List.length_nil, List.length_append, Nat.zero_add] at *)
  all_goals (try simp (disch := omega) only [wrap64] at *)
  all_goals try first | exact leafDraw (by kernel_rfl) | exact Leaf.mk trivial | (refine Leaf.mk ?_; omega) | (refine Leaf.mk ?_; unfold maxLen; omega)
  all_goals first
    | (rw [any_end (by omega)] at he; refine Leaf.mk (ret1 (show decide ((xs.length : Int) < 8) = room (key, xs) me from ?_)); simp only [room, he, Bool.or_false]; congr 1; simp only [eq_iff_iff]; omega)
    | (rw [any_hit (0, 0, false, []) (by omega) (by simp only [roomP, Bool.and_eq_true, beq_iff_eq]; omega)] at he; refine Leaf.mk (ret1 (show true = room (key, xs) me from ?_)); simp only [room, he, Bool.or_true])
    | (rw [any_skip (0, 0, false, []) (by omega) (by rw [← Bool.not_eq_true]; simp only [roomP, Bool.and_eq_true, beq_iff_eq]; omega)] at he; exact Leaf.mk ⟨i + 1, rfl, ⟨by omega, he⟩, by omega⟩)
def okTs (at' : Int) (v : Ver) : Bool := decide (1 ≤ v.2.1 ∧ v.2.1 ≤ at')
def settled (s : Stk) (at' : Int) : Bool := decide (s.2.countP (okTs at') = 0 ∨ (s.2.countP (okTs at') = 1 ∧ (1 < s.2.length ∨ (s.2.getD 0 (0, 0, false, [])).2.2.1 = false)))
def sSettled : PSpec := ⟨[.d StT, .d (.int .i64)], [⟨false, [.d .bool]⟩], fun _ => True, fun x => ((settled x.1 x.2.1, ()), ())⟩
def sSettledR : PSpec := sSettled
theorem fSettled : FnOk Try.prog 25 := ⟨_, Try.func25, by decide, rfl⟩
theorem pSettled : PSound Try.prog 25 sSettled := by
  refine psound (T := tab) (S := (spOf [])) (keep := k25) (by kernel_rfl) tabOk spNil (by kernel_rfl) Try.func25 (by kernel_rfl) (by decide) fun xs hg hp => ?_
  obtain ⟨⟨key, xs⟩, at', ⟨⟩⟩ := xs
  obtain ⟨⟨hk, hl, hx⟩, hg⟩ := hg
  change List UInt8 at key
  change List Ver at xs
  have hl := len63 hl
  clear hp
  change Int at at'
  show vfun tab _ k25 Try.f25 [.agg [.s key, .sl VerT xs], .i .i64 at'] [] _
  refine Ev.out ?_
  repeat' (first | ((with_reducible refine Ev.mk ?_); conv => whnf) | (with_reducible refine And.intro ?_ ?_) | (intro h))
  refine LoopVC.on (fun i : Nat => [(11, .i .i64 i), (5, .i .i64 ((xs.take i).countP (okTs at') : Nat))]) (fun _ => []) (fun i => i ≤ xs.length) (fun i => xs.length - i) 0 rfl (by omega) ?_
  intro i hi
  have hc1 := countP_take_le (xs := xs) (i := i) (p := okTs at')
  repeat' (first | ((with_reducible refine Ev.mk ?_); conv => whnf) | (with_reducible refine And.intro ?_ ?_) | (intro h))
  all_goals (try simp only [decide_eq_true_eq, decide_eq_false_iff_not, beq_iff_eq, bne_iff_ne, beq_eq_false_iff_ne, bne_eq_false_iff_eq, Int.toNat_natCast, ge_iff_le, gt_iff_lt, Bool.not_eq_true', Bool.not_eq_false', Int.not_lt, Int.not_le, ne_eq] at *)
  all_goals (try dsimp only [Ty.den, Ty.dflt, VerT] at *)
  all_goals (try simp only [eq4, ne4, eq3, ne3, eq2, ne2, Prod.eta, List.length_cons, List.length_nil, List.length_append, Nat.zero_add] at *)
  all_goals (try simp (disch := omega) only [wrap64] at *)
  all_goals try first | exact leafDraw (by kernel_rfl) | exact Leaf.mk trivial | (refine Leaf.mk ?_; omega) | (refine Leaf.mk ?_; unfold maxLen; omega)
  all_goals try
    (refine Leaf.mk ⟨i + 1, ?_, by omega, by omega⟩
     rw [countP_at (0, 0, false, []) (by omega)]
     first
     | (rw [if_pos (by simp only [okTs, decide_eq_true_eq]; omega)]; rfl)
     | (rw [if_neg (by simp only [okTs, decide_eq_true_eq]; omega)]; rfl))
  all_goals
    rw [take_all (by omega)] at *
    refine Leaf.mk (ret1 (show _ = settled (key, xs) at' from ?_))
    simp only [settled, Int.toNat_zero]
    grind
theorem fSettledR : FnOk Try.prog 26 := ⟨_, Try.func26, by decide, rfl⟩
theorem pSettledR : PSound Try.prog 26 sSettledR := by
  refine psound (T := tab) (S := (spOf [])) (keep := k26) (by kernel_rfl) tabOk spNil (by kernel_rfl) Try.func26 (by kernel_rfl) (by decide) fun xs hg hp => ?_
  obtain ⟨⟨key, xs⟩, at', ⟨⟩⟩ := xs
  obtain ⟨⟨hk, hl, hx⟩, hg⟩ := hg
  change List UInt8 at key
  change List Ver at xs
  have hl := len63 hl
  clear hp
  change Int at at'
  change xs.length ≤ _ at hl
  show vfun tab _ k26 Try.f26 [.agg [.s key, .sl VerT xs], .i .i64 at'] [] _
  refine Ev.out ?_
  repeat' (first | ((with_reducible refine Ev.mk ?_); conv => whnf) | (with_reducible refine And.intro ?_ ?_) | (intro h))
  refine LoopVC.on (fun i : Nat => [(6, .i .i64 i), (5, .i .i64 ((xs.take i).countP (okTs at') : Nat))]) (fun _ => []) (fun i => i ≤ xs.length) (fun i => xs.length - i) 0 rfl (by omega) ?_
  intro i hi
  have hc1 := countP_take_le (xs := xs) (i := i) (p := okTs at')
  repeat' (first | ((with_reducible refine Ev.mk ?_); conv => whnf) | (with_reducible refine And.intro ?_ ?_) | (intro h))
  all_goals (try simp only [decide_eq_true_eq, decide_eq_false_iff_not, beq_iff_eq, bne_iff_ne, beq_eq_false_iff_ne, bne_eq_false_iff_eq, Int.toNat_natCast, ge_iff_le, gt_iff_lt, Bool.not_eq_true', Bool.not_eq_false', Int.not_lt, Int.not_le, ne_eq] at *)
  all_goals (try dsimp only [Ty.den, Ty.dflt, VerT] at *)
  all_goals (try simp only [eq4, ne4, eq3, ne3, eq2, ne2, Prod.eta, List.length_cons, List.length_nil, List.length_append, Nat.zero_add] at *)
  all_goals (try simp (disch := omega) only [wrap64] at *)
  all_goals try first | exact leafDraw (by kernel_rfl) | exact Leaf.mk trivial | (refine Leaf.mk ?_; omega) | (refine Leaf.mk ?_; unfold maxLen; omega)
  all_goals try
    (refine Leaf.mk ⟨i + 1, ?_, by omega, by omega⟩
     rw [countP_at (0, 0, false, []) (by omega)]
     first
     | (rw [if_pos (by simp only [okTs, decide_eq_true_eq]; omega)]; rfl)
     | (rw [if_neg (by simp only [okTs, decide_eq_true_eq]; omega)]; rfl))
  all_goals
    rw [take_all (by omega)] at *
    refine Leaf.mk (ret1 (show _ = settled (key, xs) at' from ?_))
    simp only [settled, Int.toNat_zero]
    grind
def samePairs (a b : List Pr) : Bool := decide (a = b)
def sSamePairs : PSpec := ⟨[.d (.slice PairT), .d (.slice PairT)], [⟨false, [.d .bool]⟩], fun _ => True, fun x => ((samePairs x.1 x.2.1, ()), ())⟩
theorem fSamePairs : FnOk Try.prog 27 := ⟨_, Try.func27, by decide, rfl⟩
theorem pSamePairs : PSound Try.prog 27 sSamePairs := by
  refine psound (T := tab) (S := (spOf [])) (keep := k27) (by kernel_rfl) tabOk spNil (by kernel_rfl) Try.func27 (by kernel_rfl) (by decide) fun xs hg hp => ?_
  obtain ⟨xs, ys, ⟨⟩⟩ := xs
  obtain ⟨⟨hl, -⟩, ⟨hm, -⟩, -⟩ := hg
  have hl := len63 hl
  have hm := len63 hm
  change List Pr at xs ys
  change xs.length ≤ _ at hl
  change ys.length ≤ _ at hm
  clear hp
  show vfun tab _ k27 Try.f27 [.sl PairT xs, .sl PairT ys] [] _
  refine Ev.out ?_
  repeat' (first | ((with_reducible refine Ev.mk ?_); conv => whnf) | (with_reducible refine And.intro ?_ ?_) | (intro h))
  all_goals (try simp only [decide_eq_true_eq, decide_eq_false_iff_not, beq_iff_eq, bne_iff_ne, beq_eq_false_iff_ne, bne_eq_false_iff_eq, Int.toNat_natCast, ge_iff_le, gt_iff_lt, Bool.not_eq_true', Bool.not_eq_false', Int.not_lt, Int.not_le, ne_eq] at *)
  all_goals (try dsimp only [Ty.den, Ty.dflt, PairT] at *)
  all_goals (try simp only [eq4, ne4, eq3, ne3, eq2, ne2, Prod.eta, List.length_cons, List.length_nil, List.length_append, Nat.zero_add] at *)
  all_goals (try simp (disch := omega) only [wrap64] at *)
  · refine Leaf.mk (ret1 (show false = decide (xs = ys) from ?_))
    rw [eq_comm, decide_eq_false_iff_not]; intro hc; subst hc; omega
  refine LoopVC.on (fun i : Nat => [(5, .i .i64 i)]) (fun _ => []) (fun i => i ≤ xs.length ∧ xs.take i = ys.take i) (fun i => xs.length - i) 0 rfl ⟨by omega, by simp⟩ ?_
  intro i ⟨hi, he⟩
  repeat' (first | ((with_reducible refine Ev.mk ?_); conv => whnf) | (with_reducible refine And.intro ?_ ?_) | (intro h))
  all_goals (try simp only [decide_eq_true_eq, decide_eq_false_iff_not, beq_iff_eq, bne_iff_ne, beq_eq_false_iff_ne, bne_eq_false_iff_eq, Int.toNat_natCast, ge_iff_le, gt_iff_lt, Bool.not_eq_true', Bool.not_eq_false', Int.not_lt, Int.not_le, ne_eq] at *)
  all_goals (try dsimp only [Ty.den, Ty.dflt, PairT] at *)
  all_goals (try simp only [eq4, ne4, eq3, ne3, eq2, ne2, Prod.eta, List.length_cons, List.length_nil, List.length_append, Nat.zero_add] at *)
  all_goals (try simp (disch := omega) only [wrap64] at *)
  all_goals try first | exact leafDraw (by kernel_rfl) | exact Leaf.mk trivial | (refine Leaf.mk ?_; omega) | (refine Leaf.mk ?_; unfold maxLen; omega)
  all_goals first
    | exact Leaf.mk (ret1 (show false = decide (xs = ys) by rw [eq_comm, decide_eq_false_iff_not]; exact same_not ([], []) h))
    | exact Leaf.mk ⟨i + 1, rfl, ⟨by omega, same_step ([], []) (by omega) he (by omega) h⟩, by omega⟩
    | exact Leaf.mk (ret1 (show true = decide (xs = ys) by rw [eq_comm, decide_eq_true_eq]; exact same_end (by omega) he (by omega)))
def scan1 (me at' : Int) (s : Stk) : Option Pr := if (readV s me at').2 = true then some (s.1, (readV s me at').1) else none
def scan (l : List Stk) (me at' : Int) : List Pr := l.filterMap (scan1 me at')
def sScan : PSpec := ⟨[.d (.slice StT), .d (.int .i64), .d (.int .i64)], [⟨false, [.d (.slice PairT)]⟩], fun x => x.1.length ≤ 1000, fun x => ((scan x.1 x.2.1 x.2.2.1, ()), ())⟩
def sScanR : PSpec := sScan
theorem fScan : FnOk Try.prog 28 := ⟨_, Try.func28, by decide, rfl⟩
theorem pScan : PSound Try.prog 28 sScan := by
  refine psound (T := tab) (S := (spOf [(17, sRead.spec (lsOf []))])) (keep := k28) (by kernel_rfl) tabOk (spCons (pOk pRead fRead (by decide) lsNil) spNil) (by kernel_rfl) Try.func28 (by kernel_rfl) (by decide) fun xs hg hp => ?_
  obtain ⟨xs, me, at', ⟨⟩⟩ := xs
  obtain ⟨⟨hl, hx⟩, hg⟩ := hg
  change List Stk at xs
  change Int at me
  change Int at at'
  change xs.length ≤ 1000 at hp
  clear hl hx hg
  show vfun tab _ k28 Try.f28 [.sl StT xs, .i .i64 me, .i .i64 at'] [] _
  refine Ev.out ?_
  repeat' (first | ((with_reducible refine Ev.mk ?_); conv => whnf) | (with_reducible refine And.intro ?_ ?_) | (intro h))
  refine LoopVC.weak [(.slot 7, .nil 82 PairT)] (fun i : Nat => [(14, .i .i64 i)]) (fun i => [(0, .arr 82 PairT ((xs.take i).filterMap (scan1 me at')))]) (fun i => i ≤ xs.length) (fun i => xs.length - i) 0 (Ev.mk ?_)
  (conv => whnf)
  refine ⟨Leaf.mk rfl, Leaf.mk ?_, ?_⟩
  · omega
  intro i hi
  have hc := length_filterMap_take (xs := xs) (i := i) (f := scan1 me at')
  repeat' (first | ((with_reducible refine Ev.mk ?_); conv => whnf) | (with_reducible refine And.intro ?_ ?_) | (intro h))
  all_goals (try simp only [decide_eq_true_eq, decide_eq_false_iff_not, beq_iff_eq, bne_iff_ne, beq_eq_false_iff_ne, bne_eq_false_iff_eq, Int.toNat_natCast, ge_iff_le, gt_iff_lt, Bool.not_eq_true', Bool.not_eq_false', Int.not_lt, Int.not_le, ne_eq] at *)
  all_goals (try dsimp only [Ty.den, Ty.dflt, PairT, sRead, sReadR] at *)
  all_goals (try simp only [eq4, ne4, eq3, ne3, eq2, ne2, Prod.eta, List.length_cons, List.length_nil, List.length_append, Nat.zero_add] at *)
  all_goals (try simp (disch := omega) only [wrap64] at *)
  all_goals try first | exact leafDraw (by kernel_rfl) | exact Leaf.mk trivial | (refine Leaf.mk ?_; omega) | (refine Leaf.mk ?_; unfold maxLen; omega)
  all_goals first
    | (rw [take_all (by omega)]; exact Leaf.mk (ret1 rfl))
    | (refine Leaf.mk ⟨i + 1, ?_, by omega, by omega⟩
       rw [filterMap_at ([], []) (by omega)]
       first
       | (rw [show scan1 me at' (xs.getD i ([], [])) = some (_, _) from if_pos (by assumption)]; rfl)
       | (rw [show scan1 me at' (xs.getD i ([], [])) = none from if_neg (by rw [Bool.not_eq_true]; assumption)]; simp only [Option.toList, List.append_nil]; rfl))
theorem fScanR : FnOk Try.prog 29 := ⟨_, Try.func29, by decide, rfl⟩
theorem pScanR : PSound Try.prog 29 sScanR := by
  refine psound (T := tab) (S := (spOf [(18, sReadR.spec (lsOf []))])) (keep := k29) (by kernel_rfl) tabOk (spCons (pOk pReadR fReadR (by decide) lsNil) spNil) (by kernel_rfl) Try.func29 (by kernel_rfl) (by decide) fun xs hg hp => ?_
  obtain ⟨xs, me, at', ⟨⟩⟩ := xs
  obtain ⟨⟨hl, hx⟩, hg⟩ := hg
  change List Stk at xs
  change Int at me
  change Int at at'
  change xs.length ≤ 1000 at hp
  clear hl hx hg
  show vfun tab _ k29 Try.f29 [.sl StT xs, .i .i64 me, .i .i64 at'] [] _
  refine Ev.out ?_
  repeat' (first | ((with_reducible refine Ev.mk ?_); conv => whnf) | (with_reducible refine And.intro ?_ ?_) | (intro h))
  refine LoopVC.weak [(.slot 7, .nil 82 PairT)] (fun i : Nat => [(8, .i .i64 i)]) (fun i => [(0, .arr 82 PairT ((xs.take i).filterMap (scan1 me at')))]) (fun i => i ≤ xs.length) (fun i => xs.length - i) 0 (Ev.mk ?_)
  (conv => whnf)
  refine ⟨Leaf.mk rfl, Leaf.mk ?_, ?_⟩
  · omega
  intro i hi
  have hc := length_filterMap_take (xs := xs) (i := i) (f := scan1 me at')
  repeat' (first | ((with_reducible refine Ev.mk ?_); conv => whnf) | (with_reducible refine And.intro ?_ ?_) | (intro h))
  all_goals (try simp only [decide_eq_true_eq, decide_eq_false_iff_not, beq_iff_eq, bne_iff_ne, beq_eq_false_iff_ne, bne_eq_false_iff_eq, Int.toNat_natCast, ge_iff_le, gt_iff_lt, Bool.not_eq_true', Bool.not_eq_false', Int.not_lt, Int.not_le, ne_eq] at *)
  all_goals (try dsimp only [Ty.den, Ty.dflt, PairT, sRead, sReadR] at *)
  all_goals (try simp only [eq4, ne4, eq3, ne3, eq2, ne2, Prod.eta, List.length_cons, List.length_nil, List.length_append, Nat.zero_add] at *)
  all_goals (try simp (disch := omega) only [wrap64] at *)
  all_goals try first | exact leafDraw (by kernel_rfl) | exact Leaf.mk trivial | (refine Leaf.mk ?_; omega) | (refine Leaf.mk ?_; unfold maxLen; omega)
  all_goals first
    | (rw [take_all (by omega)]; exact Leaf.mk (ret1 rfl))
    | (refine Leaf.mk ⟨i + 1, ?_, by omega, by omega⟩
       rw [filterMap_at ([], []) (by omega)]
       first
       | (rw [show scan1 me at' (xs.getD i ([], [])) = some (_, _) from if_pos (by assumption)]; rfl)
       | (rw [show scan1 me at' (xs.getD i ([], [])) = none from if_neg (by rw [Bool.not_eq_true]; assumption)]; simp only [Option.toList, List.append_nil]; rfl))
end Go.Proofs.Ytiklpaemkeadjaa
