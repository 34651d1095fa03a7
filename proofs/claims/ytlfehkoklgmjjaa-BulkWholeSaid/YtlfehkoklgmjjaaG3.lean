import Derived.Test.YtlfehkoklgmjjaaG2


set_option linter.unusedVariables false
set_option linter.unusedSimpArgs false
set_option maxRecDepth 8000
set_option maxHeartbeats 4000000
namespace Go.Proofs.Ytlfehkoklgmjjaa
open Go.Eng
def one (s : Stk) : List Int := putSmall ((putR11 s).1.length : Nat) ++ (putR11 s).1
def layF (l : List Stk) : List Int := putSmall (l.length : Nat) ++ l.flatMap one
def sizeF (l : List Stk) : Nat := (layF l).length
theorem putR_len (s : Stk) : (putR11 s).1.length ≤ 595 := by
  unfold putR11
  split
  · exact putS_len ‹_›
  · exact Nat.zero_le _
theorem one_len (s : Stk) : (one s).length ≤ 604 := by
  have h1 := putR_len s
  have h2 := putSmall_len ((putR11 s).1.length : Nat)
  rw [one, List.length_append]; omega
theorem flat_lenS {α β : Type} (f : β → List α) (m : Nat) (h : ∀ v, (f v).length ≤ m) : ∀ (l : List β), (l.flatMap f).length ≤ l.length * m
  | [] => by simp
  | v :: r => by
    have := flat_lenS f m h r
    have := h v
    rw [List.flatMap_cons, List.length_append, List.length_cons, Nat.succ_mul]; omega
def sOne : PSpec := ⟨[.d StT], [⟨false, [.o 5 (.int .u8)]⟩], fun _ => True, fun x => ((one x.1, ()), ())⟩
def sOneR : PSpec := sOne
def sLay14 : PSpec := ⟨[.d (.slice StT)], [⟨false, [.o 5 (.int .u8)]⟩], fun x => List.length x.1 ≤ 100000, fun x => ((layF x.1, ()), ())⟩
def sLay14R : PSpec := sLay14
theorem fOne : FnOk Try.prog 174 := ⟨_, Try.func174, by decide, rfl⟩
theorem pOne : PSound Try.prog 174 sOne := by
  refine psound (T := tab) (S := (spOf [(47, sSPut.spec (lsOf [])), (94, sPutSmall.spec (lsOf []))])) (keep := k174) (by kernel_rfl) tabOk (spCons (pOk pSPut fSPut (by decide) lsNil) (spCons (pOk pPutSmall fPutSmall (by decide) lsNil) spNil)) (by kernel_rfl) Try.func174 (by kernel_rfl) (by decide) fun xs hg hp => ?_
  obtain ⟨⟨key, xs⟩, ⟨⟩⟩ := xs
  change List UInt8 at key
  change List Ver at xs
  clear hp hg
  show vfun tab _ k174 Try.f174 [.agg [.s key, .sl VerT xs]] [] _
  refine Ev.out ?_
  repeat' (first | ((with_reducible refine Ev.mk ?_); conv => whnf) | (with_reducible refine And.intro ?_ ?_) | (intro h))
  all_goals (try simp only [decide_eq_true_eq, decide_eq_false_iff_not, beq_iff_eq, bne_iff_ne, beq_eq_false_iff_ne, bne_eq_false_iff_eq, Int.toNat_natCast, ge_iff_le, gt_iff_lt, Bool.not_eq_true', Bool.not_eq_false', Int.not_lt, Int.not_le, ne_eq] at *)
  all_goals (try dsimp only [Ty.den, Ty.dflt, VerT, sPutSmall, sPutSmallR] at *)
  all_goals (try simp only [eq4, ne4, eq3, ne3, eq2, ne2, Prod.eta, List.length_cons, List.length_nil, List.length_append, Nat.zero_add] at *)
  all_goals (try simp (disch := omega) only [wrap64] at *)
  all_goals try first | exact leafDraw (by kernel_rfl) | exact Leaf.mk trivial | (refine Leaf.mk ?_; omega) | (refine Leaf.mk ?_; unfold maxLen; omega)
  all_goals
    have h1 := putR_len (key, xs)
    have h2 := putSmall_len ((putR11 (key, xs)).1.length : Nat)
    try rw [show (sSPut.fn ((key, xs), ())).1.1 = (putR11 (key, xs)).1 from rfl]
    try rw [show (sSPutR.fn ((key, xs), ())).1.1 = (putR11 (key, xs)).1 from rfl]
    try rw [wrapu (by omega)]
  all_goals first
    | (refine Leaf.mk ?_; omega)
    | (refine Leaf.mk ?_; unfold maxLen; omega)
    | exact Leaf.mk (ret1 rfl)
theorem fOneR : FnOk Try.prog 182 := ⟨_, Try.func182, by decide, rfl⟩
theorem pOneR : PSound Try.prog 182 sOneR := by
  refine psound (T := tab) (S := (spOf [(48, sSPutR.spec (lsOf [])), (121, sPutSmallR.spec (lsOf []))])) (keep := k182) (by kernel_rfl) tabOk (spCons (pOk pSPutR fSPutR (by decide) lsNil) (spCons (pOk pPutSmallR fPutSmallR (by decide) lsNil) spNil)) (by kernel_rfl) Try.func182 (by kernel_rfl) (by decide) fun xs hg hp => ?_
  obtain ⟨⟨key, xs⟩, ⟨⟩⟩ := xs
  change List UInt8 at key
  change List Ver at xs
  clear hp hg
  show vfun tab _ k182 Try.f182 [.agg [.s key, .sl VerT xs]] [] _
  refine Ev.out ?_
  repeat' (first | ((with_reducible refine Ev.mk ?_); conv => whnf) | (with_reducible refine And.intro ?_ ?_) | (intro h))
  all_goals (try simp only [decide_eq_true_eq, decide_eq_false_iff_not, beq_iff_eq, bne_iff_ne, beq_eq_false_iff_ne, bne_eq_false_iff_eq, Int.toNat_natCast, ge_iff_le, gt_iff_lt, Bool.not_eq_true', Bool.not_eq_false', Int.not_lt, Int.not_le, ne_eq] at *)
  all_goals (try dsimp only [Ty.den, Ty.dflt, VerT, sPutSmall, sPutSmallR] at *)
  all_goals (try simp only [eq4, ne4, eq3, ne3, eq2, ne2, Prod.eta, List.length_cons, List.length_nil, List.length_append, Nat.zero_add] at *)
  all_goals (try simp (disch := omega) only [wrap64] at *)
  all_goals try first | exact leafDraw (by kernel_rfl) | exact Leaf.mk trivial | (refine Leaf.mk ?_; omega) | (refine Leaf.mk ?_; unfold maxLen; omega)
  all_goals
    have h1 := putR_len (key, xs)
    have h2 := putSmall_len ((putR11 (key, xs)).1.length : Nat)
    try rw [show (sSPut.fn ((key, xs), ())).1.1 = (putR11 (key, xs)).1 from rfl]
    try rw [show (sSPutR.fn ((key, xs), ())).1.1 = (putR11 (key, xs)).1 from rfl]
    try rw [wrapu (by omega)]
  all_goals first
    | (refine Leaf.mk ?_; omega)
    | (refine Leaf.mk ?_; unfold maxLen; omega)
    | exact Leaf.mk (ret1 rfl)
theorem fLay14 : FnOk Try.prog 138 := ⟨_, Try.func138, by decide, rfl⟩
theorem pLay14 : PSound Try.prog 138 sLay14 := by
  refine psound (T := tab) (S := (spOf [(174, sOne.spec (lsOf [])), (94, sPutSmall.spec (lsOf []))])) (keep := k138) (by kernel_rfl) tabOk (spCons (pOk pOne fOne (by decide) lsNil) (spCons (pOk pPutSmall fPutSmall (by decide) lsNil) spNil)) (by kernel_rfl) Try.func138 (by kernel_rfl) (by decide) fun xs hg hp => ?_
  obtain ⟨xs, ⟨⟩⟩ := xs
  change List Stk at xs
  change xs.length ≤ 100000 at hp
  clear hg
  show vfun tab _ k138 Try.f138 [.sl StT xs] [] _
  refine Ev.out ?_
  repeat' (first | ((with_reducible refine Ev.mk ?_); conv => whnf) | (with_reducible refine And.intro ?_ ?_) | (intro h))
  all_goals (try simp only [decide_eq_true_eq, decide_eq_false_iff_not, beq_iff_eq, bne_iff_ne, beq_eq_false_iff_ne, bne_eq_false_iff_eq, Int.toNat_natCast, ge_iff_le, gt_iff_lt, Bool.not_eq_true', Bool.not_eq_false', Int.not_lt, Int.not_le, ne_eq] at *)
  all_goals (try dsimp only [Ty.den, Ty.dflt, StT, sPutSmall, sPutSmallR] at *)
  all_goals (try simp only [eq4, ne4, eq3, ne3, eq2, ne2, Prod.eta, List.length_cons, List.length_nil, List.length_append, Nat.zero_add] at *)
  all_goals (try simp (disch := omega) only [wrap64] at *)
  all_goals try first | exact leafDraw (by kernel_rfl) | exact Leaf.mk trivial | (refine Leaf.mk ?_; omega) | (refine Leaf.mk ?_; unfold maxLen; omega)
  have h2 := putSmall_len (xs.length : Nat)
  rw [wrapu (by omega)]
  refine LoopVC.on (fun i : Nat => [(12, .i .i64 i)]) (fun i => [(0, .arr 5 (.int .u8) (putSmall xs.length ++ (xs.take i).flatMap one))]) (fun i => i ≤ xs.length) (fun i => xs.length - i) 0 (by simp only [List.take_zero, List.flatMap_nil, List.append_nil]; rfl) (by omega) ?_
  intro i hi
  have hfl := flat_lenS one 604 one_len (xs.take i)
  have htl : (xs.take i).length ≤ 100000 := by rw [List.length_take]; omega
  have h1 := one_len (xs.getD i ([], []))
  repeat' (first | ((with_reducible refine Ev.mk ?_); conv => whnf) | (with_reducible refine And.intro ?_ ?_) | (intro h))
  all_goals (try simp only [decide_eq_true_eq, decide_eq_false_iff_not, beq_iff_eq, bne_iff_ne, beq_eq_false_iff_ne, bne_eq_false_iff_eq, Int.toNat_natCast, ge_iff_le, gt_iff_lt, Bool.not_eq_true', Bool.not_eq_false', Int.not_lt, Int.not_le, ne_eq] at *)
  all_goals (try dsimp only [Ty.den, Ty.dflt, StT, sOne, sOneR] at *)
  all_goals (try simp only [eq4, ne4, eq3, ne3, eq2, ne2, Prod.eta, List.length_cons, List.length_nil, List.length_append, Nat.zero_add] at *)
  all_goals (try simp (disch := omega) only [wrap64] at *)
  all_goals try first | exact leafDraw (by kernel_rfl) | exact Leaf.mk trivial | (refine Leaf.mk ?_; omega) | (refine Leaf.mk ?_; unfold maxLen; omega)
  all_goals try first
    | (refine Leaf.mk ?_; omega)
    | (refine Leaf.mk ?_; unfold maxLen; omega)
  · refine Leaf.mk ⟨i + 1, ?_, by omega, by omega⟩
    rw [flatMap_at ([], []) (by omega), ← List.append_assoc]; rfl
  · refine Leaf.mk (ret1 (show _ = layF xs from ?_))
    rw [List.take_of_length_le (by omega)]; rfl
theorem fLay14R : FnOk Try.prog 172 := ⟨_, Try.func172, by decide, rfl⟩
theorem pLay14R : PSound Try.prog 172 sLay14R := by
  refine psound (T := tab) (S := (spOf [(182, sOneR.spec (lsOf [])), (121, sPutSmallR.spec (lsOf []))])) (keep := k172) (by kernel_rfl) tabOk (spCons (pOk pOneR fOneR (by decide) lsNil) (spCons (pOk pPutSmallR fPutSmallR (by decide) lsNil) spNil)) (by kernel_rfl) Try.func172 (by kernel_rfl) (by decide) fun xs hg hp => ?_
  obtain ⟨xs, ⟨⟩⟩ := xs
  change List Stk at xs
  change xs.length ≤ 100000 at hp
  clear hg
  show vfun tab _ k172 Try.f172 [.sl StT xs] [] _
  refine Ev.out ?_
  repeat' (first | ((with_reducible refine Ev.mk ?_); conv => whnf) | (with_reducible refine And.intro ?_ ?_) | (intro h))
  all_goals (try simp only [decide_eq_true_eq, decide_eq_false_iff_not, beq_iff_eq, bne_iff_ne, beq_eq_false_iff_ne, bne_eq_false_iff_eq, Int.toNat_natCast, ge_iff_le, gt_iff_lt, Bool.not_eq_true', Bool.not_eq_false', Int.not_lt, Int.not_le, ne_eq] at *)
  all_goals (try dsimp only [Ty.den, Ty.dflt, StT, sPutSmall, sPutSmallR] at *)
  all_goals (try simp only [eq4, ne4, eq3, ne3, eq2, ne2, Prod.eta, List.length_cons, List.length_nil, List.length_append, Nat.zero_add] at *)
  all_goals (try simp (disch := omega) only [wrap64] at *)
  all_goals try first | exact leafDraw (by kernel_rfl) | exact Leaf.mk trivial | (refine Leaf.mk ?_; omega) | (refine Leaf.mk ?_; unfold maxLen; omega)
  have h2 := putSmall_len (xs.length : Nat)
  rw [wrapu (by omega)]
  refine LoopVC.on (fun i : Nat => [(4, .i .i64 i)]) (fun i => [(0, .arr 5 (.int .u8) (putSmall xs.length ++ (xs.take i).flatMap one))]) (fun i => i ≤ xs.length) (fun i => xs.length - i) 0 (by simp only [List.take_zero, List.flatMap_nil, List.append_nil]; rfl) (by omega) ?_
  intro i hi
  have hfl := flat_lenS one 604 one_len (xs.take i)
  have htl : (xs.take i).length ≤ 100000 := by rw [List.length_take]; omega
  have h1 := one_len (xs.getD i ([], []))
  repeat' (first | ((with_reducible refine Ev.mk ?_); conv => whnf) | (with_reducible refine And.intro ?_ ?_) | (intro h))
  all_goals (try simp only [decide_eq_true_eq, decide_eq_false_iff_not, beq_iff_eq, bne_iff_ne, beq_eq_false_iff_ne, bne_eq_false_iff_eq, Int.toNat_natCast, ge_iff_le, gt_iff_lt, Bool.not_eq_true', Bool.not_eq_false', Int.not_lt, Int.not_le, ne_eq] at *)
  all_goals (try dsimp only [Ty.den, Ty.dflt, StT, sOne, sOneR] at *)
  all_goals (try simp only [eq4, ne4, eq3, ne3, eq2, ne2, Prod.eta, List.length_cons, List.length_nil, List.length_append, Nat.zero_add] at *)
  all_goals (try simp (disch := omega) only [wrap64] at *)
  all_goals try first | exact leafDraw (by kernel_rfl) | exact Leaf.mk trivial | (refine Leaf.mk ?_; omega) | (refine Leaf.mk ?_; unfold maxLen; omega)
  all_goals try first
    | (refine Leaf.mk ?_; omega)
    | (refine Leaf.mk ?_; unfold maxLen; omega)
  · refine Leaf.mk ⟨i + 1, ?_, by omega, by omega⟩
    rw [flatMap_at ([], []) (by omega), ← List.append_assoc]; rfl
  · refine Leaf.mk (ret1 (show _ = layF xs from ?_))
    rw [List.take_of_length_le (by omega)]; rfl
theorem fLeafSize : FnOk Try.prog 74 := ⟨_, Try.func74, by decide, rfl⟩
noncomputable def iLeafSize : Eng.Spec := inl tab (spOf [(138, sLay14.spec (lsOf []))]) k74 Try.f74
theorem pLeafSize : SpecOk Try.prog 74 iLeafSize := inl_ok tabOk (spCons (pOk pLay14 fLay14 (by decide) lsNil) spNil) (by kernel_rfl) Try.func74 (by kernel_rfl)
def sSizeR : PSpec := ⟨[.d (.slice StT)], [⟨false, [.d (.int .i64)]⟩], fun x => List.length x.1 ≤ 100000, fun x => (((sizeF x.1 : Nat), ()), ())⟩
theorem fSizeR : FnOk Try.prog 135 := ⟨_, Try.func135, by decide, rfl⟩
theorem pSizeR : PSound Try.prog 135 sSizeR := by
  refine psound (T := tab) (S := (spOf [(172, sLay14R.spec (lsOf []))])) (keep := k135) (by kernel_rfl) tabOk (spCons (pOk pLay14R fLay14R (by decide) lsNil) spNil) (by kernel_rfl) Try.func135 (by kernel_rfl) (by decide) fun xs hg hp => ?_
  obtain ⟨xs, ⟨⟩⟩ := xs
  change List Stk at xs
  change xs.length ≤ 100000 at hp
  clear hg
  show vfun tab _ k135 Try.f135 [.sl StT xs] [] _
  refine Ev.out ?_
  repeat' (first | ((with_reducible refine Ev.mk ?_); conv => whnf) | (with_reducible refine And.intro ?_ ?_) | (intro h))
  all_goals first | exact Leaf.mk hp | exact Leaf.mk rfl
def lightL (l : List Stk) (most : Int) : Bool := decide ((l.length : Int) ≤ most) && l.all light
def sLight14 : PSpec := ⟨[.d (.slice StT), .d (.int .i64)], [⟨false, [.d .bool]⟩], fun _ => True, fun x => ((lightL x.1 x.2.1, ()), ())⟩
theorem all_at {α : Type} {p : α → Bool} {xs : List α} {i : Nat} (d : α) (h : i < xs.length) : (xs.take (i + 1)).all p = ((xs.take i).all p && p (xs.getD i d)) := by
  rw [take_at d h, List.all_append]; simp
theorem all_no {α : Type} {p : α → Bool} {xs : List α} {i : Nat} (d : α) (h : i < xs.length) (hn : p (xs.getD i d) = false) : xs.all p = false := by
  have : ¬ xs.all p = true := fun hc => by
    rw [List.all_eq_true] at hc
    have := hc _ (getD_mem d h)
    rw [hn] at this; exact absurd this (by simp)
  simpa using this
theorem fLight14 : FnOk Try.prog 60 := ⟨_, Try.func60, by decide, rfl⟩
theorem pLight14 : PSound Try.prog 60 sLight14 := by
  refine psound (T := tab) (S := (spOf [(45, sLight.spec (lsOf []))])) (keep := k60) (by kernel_rfl) tabOk (spCons (pOk pLight fLight (by decide) lsNil) spNil) (by kernel_rfl) Try.func60 (by kernel_rfl) (by decide) fun xs hg hp => ?_
  obtain ⟨xs, most, ⟨⟩⟩ := xs
  obtain ⟨⟨hl, -⟩, -⟩ := hg
  change List Stk at xs
  change Int at most
  change xs.length ≤ _ at hl
  have hl := len63 hl
  clear hp
  show vfun tab _ k60 Try.f60 [.sl StT xs, .i .i64 most] [] _
  refine Ev.out ?_
  repeat' (first | ((with_reducible refine Ev.mk ?_); conv => whnf) | (with_reducible refine And.intro ?_ ?_) | (intro h))
  all_goals (try simp only [decide_eq_true_eq, decide_eq_false_iff_not, beq_iff_eq, bne_iff_ne, beq_eq_false_iff_ne, bne_eq_false_iff_eq, Int.toNat_natCast, ge_iff_le, gt_iff_lt, Bool.not_eq_true', Bool.not_eq_false', Int.not_lt, Int.not_le, ne_eq] at *)
  all_goals (try dsimp only [Ty.den, Ty.dflt, StT] at *)
  all_goals (try simp only [eq4, ne4, eq3, ne3, eq2, ne2, Prod.eta, List.length_cons, List.length_nil, List.length_append, Nat.zero_add] at *)
  all_goals (try simp (disch := omega) only [wrap64] at *)
  · refine Leaf.mk (ret1 (show false = lightL xs most from ?_))
    rw [lightL, decide_eq_false (by omega), Bool.false_and]
  refine LoopVC.on (fun i : Nat => [(5, .i .i64 i)]) (fun _ => []) (fun i => i ≤ xs.length ∧ (xs.take i).all light = true) (fun i => xs.length - i) 0 rfl ⟨by omega, rfl⟩ ?_
  intro i ⟨hi, he⟩
  repeat' (first | ((with_reducible refine Ev.mk ?_); conv => whnf) | (with_reducible refine And.intro ?_ ?_) | (intro h))
  all_goals (try simp only [decide_eq_true_eq, decide_eq_false_iff_not, beq_iff_eq, bne_iff_ne, beq_eq_false_iff_ne, bne_eq_false_iff_eq, Int.toNat_natCast, ge_iff_le, gt_iff_lt, Bool.not_eq_true', Bool.not_eq_false', Int.not_lt, Int.not_le, ne_eq] at *)
  all_goals (try dsimp only [Ty.den, Ty.dflt, StT, sLight] at *)
  all_goals (try simp only [eq4, ne4, eq3, ne3, eq2, ne2, Prod.eta, List.length_cons, List.length_nil, List.length_append, Nat.zero_add] at *)
  all_goals (try simp (disch := omega) only [wrap64] at *)
  all_goals try first | exact leafDraw (by kernel_rfl) | exact Leaf.mk trivial | (refine Leaf.mk ?_; omega) | (refine Leaf.mk ?_; unfold maxLen; omega)
  · refine Leaf.mk (ret1 (show false = lightL xs most from ?_))
    rw [lightL, all_no ([], []) (by omega) h, Bool.and_false]
  · refine Leaf.mk ⟨i + 1, rfl, ⟨by omega, ?_⟩, by omega⟩
    rw [all_at ([], []) (by omega), he, Bool.true_and]; exact h
  · refine Leaf.mk (ret1 (show true = lightL xs most from ?_))
    rw [List.take_of_length_le (by omega)] at he
    rw [lightL, he, Bool.and_true, decide_eq_true (by omega)]
end Go.Proofs.Ytlfehkoklgmjjaa
