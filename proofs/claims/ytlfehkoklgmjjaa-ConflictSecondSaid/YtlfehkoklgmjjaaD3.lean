import Derived.Test.YtlfehkoklgmjjaaD2



set_option linter.unusedVariables false
set_option linter.unusedSimpArgs false
set_option maxRecDepth 8000
namespace Go.Proofs.Ytlfehkoklgmjjaa
open Go.Eng
theorem fTrim1 : FnOk Try.prog 78 := ⟨_, Try.func78, by decide, rfl⟩
noncomputable def iTrim1 : Eng.Spec := inl tab (spOf []) k78 Try.f78
theorem pTrim1 : SpecOk Try.prog 78 iTrim1 := inl_ok tabOk spNil (by kernel_rfl) Try.func78 (by kernel_rfl)
theorem fIndexFuncEi : FnOk Try.prog 80 := ⟨_, Try.func80, by decide, rfl⟩
noncomputable def iIndexFuncEi : Eng.Spec := inl tab (spOf [(78, iTrim1)]) k80 Try.f80
theorem pIndexFuncEi : SpecOk Try.prog 80 iIndexFuncEi := inl_ok tabOk (spCons (.inl ⟨pTrim1, fTrim1⟩) spNil) (by kernel_rfl) Try.func80 (by kernel_rfl)
theorem fDeleteFuncE : FnOk Try.prog 77 := ⟨_, Try.func77, by decide, rfl⟩
noncomputable def iDeleteFuncE : Eng.Spec := opn tab (spOf [(78, iTrim1), (80, iIndexFuncEi)]) k77 Try.f77
theorem pDeleteFuncE : SpecOk Try.prog 77 iDeleteFuncE := opn_ok tabOk (spCons (.inl ⟨pTrim1, fTrim1⟩) (spCons (.inl ⟨pIndexFuncEi, fIndexFuncEi⟩) spNil)) (by kernel_rfl) Try.func77 (by kernel_rfl)
theorem fTrim : FnOk Try.prog 22 := ⟨_, Try.func22, by decide, rfl⟩
theorem pTrim : PSound Try.prog 22 sTrim := by
  refine psound (T := tab) (S := (spOf [(75, sCloneE.spec (lsOf [])), (77, iDeleteFuncE)])) (keep := k22) (by kernel_rfl) tabOk (spCons (pOk pCloneE fCloneE (by decide) lsNil) (spCons (.inl ⟨pDeleteFuncE, fDeleteFuncE⟩) spNil)) (by kernel_rfl) Try.func22 (by kernel_rfl) (by decide) fun xs hg hp => ?_
  obtain ⟨xs, at', ⟨⟩⟩ := xs
  change List Ent at xs
  change Int at at'
  change xs.length ≤ 1000 at hp
  show vfun tab _ k22 Try.f22 [.sl EntT xs, .i .i64 at'] [] _
  refine Ev.out ?_
  repeat' (first | ((with_reducible refine Ev.mk ?_); conv => whnf) | (with_reducible refine And.intro ?_ ?_) | (intro h))
  all_goals (try simp only [decide_eq_true_eq, decide_eq_false_iff_not, beq_iff_eq, bne_iff_ne, beq_eq_false_iff_ne, bne_eq_false_iff_eq, Int.toNat_natCast, ge_iff_le, gt_iff_lt, Bool.not_eq_true', Bool.not_eq_false', Int.not_lt, Int.not_le, ne_eq] at *)
  all_goals (try dsimp only [Ty.den, Ty.dflt, EntT, sCloneE] at *)
  all_goals (try simp only [eq4, ne4, eq3, ne3, eq2, ne2, Prod.eta, List.length_cons, List.length_nil, List.length_append, Nat.zero_add] at *)
  all_goals (try simp (disch := omega) only [wrap64] at *)
  all_goals (try simp only [Int.sub_zero, Int.toNat_natCast, Int.toNat_sub, Int.toNat_zero, Nat.zero_add, toNat_add', toNat_addsub, toNat_subadd, List.length_map, List.length_append, List.length_replicate, List.length_take, List.length_drop] at *)
  all_goals try first | exact leafDraw (by kernel_rfl) | exact Leaf.mk trivial | (refine Leaf.mk ?_; omega) | (refine Leaf.mk ?_; unfold maxLen; omega)
  rename_i k
  let p : Ent → Bool := fun e => decide (e.1 ≤ at')
  have hp0 : ∀ e : Ent, at' < e.1 → p e = false := fun e he => decide_eq_false (by omega)
  have hp1 : ∀ e : Ent, e.1 ≤ at' → p e = true := fun e he => decide_eq_true he
  have ht : trim xs at' = xs.filter (fun e => !p e) := by
    unfold trim
    refine congrArg (fun f => xs.filter f) (funext fun e => ?_)
    by_cases h : e.1 ≤ at'
    · rw [hp1 e h, decide_eq_false (by omega)]; rfl
    · rw [hp0 e (by omega), decide_eq_true (by omega)]; rfl
  refine LoopVC.on (fun i : Nat => [(8, .i .i64 i)]) (fun _ => []) (fun i => i ≤ xs.length ∧ ∀ j, j < i → p (xs.getD j (0, [])) = false) (fun i => xs.length - i) 0 rfl ⟨by omega, fun j hj => by omega⟩ ?_
  intro i ⟨hi, he⟩
  have hget : i < xs.length → (xs.map some ++ List.replicate k none).getD i none = some ((xs.getD i (0, [])) : Ent) := fun h => raw_getD _ h
  repeat' (first | ((with_reducible refine Ev.mk ?_); conv => whnf) | (with_reducible refine And.intro ?_ ?_) | (intro h))
  all_goals (try simp only [decide_eq_true_eq, decide_eq_false_iff_not, beq_iff_eq, bne_iff_ne, beq_eq_false_iff_ne, bne_eq_false_iff_eq, Int.toNat_natCast, ge_iff_le, gt_iff_lt, Bool.not_eq_true', Bool.not_eq_false', Int.not_lt, Int.not_le, ne_eq] at *)
  all_goals (try dsimp only [Ty.den, Ty.dflt, EntT, sCloneE] at *)
  all_goals (try simp only [eq4, ne4, eq3, ne3, eq2, ne2, Prod.eta, List.length_cons, List.length_nil, List.length_append, Nat.zero_add] at *)
  all_goals (try simp (disch := omega) only [wrap64] at *)
  all_goals (try simp only [Int.sub_zero, Int.toNat_natCast, Int.toNat_sub, Int.toNat_zero, Nat.zero_add, toNat_add', toNat_addsub, toNat_subadd, List.length_map, List.length_append, List.length_replicate, List.length_take, List.length_drop] at *)
  all_goals try first | exact leafDraw (by kernel_rfl) | exact Leaf.mk trivial | (refine Leaf.mk ?_; omega) | (refine Leaf.mk ?_; unfold maxLen; omega)
  all_goals try
    · exact Leaf.mk (by rw [hget (by omega)]; rfl)
  all_goals try
    · exact absurd trivial h
  · rw [hget (by omega)] at h
    change (xs.getD i (0, [])).1 ≤ at' at h
    refine LoopVC.on (fun a : Nat × Nat × List (Option Ent) => [(5, .i .i64 a.1), (6, .i .i64 a.2.1)]) (fun a => [(9, .raw 47 EntT a.2.2)]) (fun a => DF p xs k a.2.2 a.1 a.2.1) (fun a => xs.length - a.2.1) (i, i + 1, _) rfl (DF.init (0, []) (by omega) he (hp1 _ h)) ?_
    intro ⟨i, j, zs⟩ D
    change DF p xs k zs i j at D
    have hget : j < xs.length → zs.getD j none = some ((xs.getD j (0, [])) : Ent) := fun h => D.get _ h
    have hlen := D.len
    have hlt := D.lt
    have hle := D.le
    dsimp only
    repeat' (first | ((with_reducible refine Ev.mk ?_); conv => whnf) | (with_reducible refine And.intro ?_ ?_) | (intro h))
    all_goals (try simp only [decide_eq_true_eq, decide_eq_false_iff_not, beq_iff_eq, bne_iff_ne, beq_eq_false_iff_ne, bne_eq_false_iff_eq, Int.toNat_natCast, ge_iff_le, gt_iff_lt, Bool.not_eq_true', Bool.not_eq_false', Int.not_lt, Int.not_le, ne_eq] at *)
    all_goals (try dsimp only [Ty.den, Ty.dflt, EntT, sCloneE] at *)
    all_goals (try simp only [eq4, ne4, eq3, ne3, eq2, ne2, Prod.eta, List.length_cons, List.length_nil, List.length_append, Nat.zero_add] at *)
    all_goals (try simp (disch := omega) only [wrap64] at *)
    all_goals (try simp only [Int.sub_zero, Int.toNat_natCast, Int.toNat_sub, Int.toNat_zero, Nat.zero_add, toNat_add', toNat_addsub, toNat_subadd, List.length_map, List.length_append, List.length_replicate, List.length_take, List.length_drop] at *)
    all_goals try first | exact leafDraw (by kernel_rfl) | exact Leaf.mk trivial | (refine Leaf.mk ?_; omega) | (refine Leaf.mk ?_; unfold maxLen; omega)
    · exact Leaf.mk (by rw [hget (by omega)]; rfl)
    · rw [hget (by omega)] at h ⊢
      change at' < (xs.getD j (0, [])).1 at h
      exact Leaf.mk ⟨(i + 1, j + 1, _), rfl, D.keep (0, []) (by omega) (hp0 _ h), by show _ - (j + 1) < _; omega⟩
    · rw [hget (by omega)] at h
      change (xs.getD j (0, [])).1 ≤ at' at h
      exact Leaf.mk ⟨(i, j + 1, zs), rfl, D.next (0, []) (by omega) (hp1 _ h), by show _ - (j + 1) < _; omega⟩
    · refine Leaf.mk ?_
      rw [List.append_assoc, D.end (by omega)]; exact raw_all
    · refine Leaf.mk (ret1 (show List.map (fun r => r.getD (0, [])) (List.take i (zs.take i ++ List.replicate (xs.length - i) (some ((0, []) : Ent)) ++ zs.drop (i + (xs.length - i)))) = trim xs at' from ?_))
      rw [List.append_assoc, D.end (by omega), map_some_getD, ht]
  · rw [hget (by omega)] at h
    change at' < (xs.getD i (0, [])).1 at h
    refine Leaf.mk ⟨i + 1, rfl, ⟨by omega, fun j hj => ?_⟩, by omega⟩
    by_cases hji : j = i
    · subst hji; exact hp0 _ h
    · exact he j (by omega)
  · refine Leaf.mk (?_ : (List.take _ (xs.map some ++ List.replicate k none)).all Option.isSome = true); rw [raw_take (Nat.le_refl _)]; exact raw_all
  · refine Leaf.mk (ret1 (show List.map (fun r => r.getD (0, [])) (List.take xs.length (xs.map some ++ List.replicate k none)) = trim xs at' from ?_))
    rw [raw_take (Nat.le_refl _), map_some_getD, List.take_length, ht, List.filter_eq_self.2]
    intro e hm
    obtain ⟨j, hj, rfl⟩ := List.mem_iff_getElem.1 hm
    have := he j (by omega)
    rw [List.getD_eq_getElem?_getD, List.getElem?_eq_getElem hj] at this
    simp [show p xs[j] = false from this]
/-! ## Sets -/
/-- Ascending, each once. -/
def Rising (xs : Tx) (n : Nat) : Prop := ∀ j, j < n → 1 ≤ j → sless (xs.getD (j - 1) []) (xs.getD j []) = true
instance (xs : Tx) (n : Nat) : Decidable (Rising xs n) := by unfold Rising; exact inferInstance
def rising (xs : Tx) : Bool := decide (Rising xs xs.length)
def sRising : PSpec := ⟨[.d TxT], [⟨false, [.d .bool]⟩], fun _ => True, fun x => ((rising x.1, ()), ())⟩
theorem fRising : FnOk Try.prog 79 := ⟨_, Try.func79, by decide, rfl⟩
theorem pRising : PSound Try.prog 79 sRising := by
  refine psound (T := tab) (S := (spOf [])) (keep := k79) (by kernel_rfl) tabOk spNil (by kernel_rfl) Try.func79 (by kernel_rfl) (by decide) fun xs hg hp => ?_
  obtain ⟨xs, ⟨⟩⟩ := xs
  obtain ⟨⟨hl, -⟩, -⟩ := hg
  change List (List UInt8) at xs
  change xs.length ≤ _ at hl
  have hl := len63 hl
  clear hp
  show vfun tab _ k79 Try.f79 [.sl .str xs] [] _
  refine Ev.out ?_
  repeat' (first | ((with_reducible refine Ev.mk ?_); conv => whnf) | (with_reducible refine And.intro ?_ ?_) | (intro h))
  refine LoopVC.on (fun i : Nat => [(3, .i .i64 i)]) (fun _ => []) (fun i => 1 ≤ i ∧ Rising xs i) (fun i => xs.length - i) 1 rfl ⟨by omega, fun j hj h1 => by omega⟩ ?_
  intro i ⟨hi, he⟩
  repeat' (first | ((with_reducible refine Ev.mk ?_); conv => whnf) | (with_reducible refine And.intro ?_ ?_) | (intro h))
  all_goals (try simp only [decide_eq_true_eq, decide_eq_false_iff_not, beq_iff_eq, bne_iff_ne, beq_eq_false_iff_ne, bne_eq_false_iff_eq, Int.toNat_natCast, ge_iff_le, gt_iff_lt, Bool.not_eq_true', Bool.not_eq_false', Int.not_lt, Int.not_le, ne_eq] at *)
  all_goals (try dsimp only [Ty.den, Ty.dflt, TxT] at *)
  all_goals (try simp only [eq4, ne4, eq3, ne3, eq2, ne2, Prod.eta, List.length_cons, List.length_nil, List.length_append, Nat.zero_add] at *)
  all_goals (try simp (disch := omega) only [wrap64] at *)
  all_goals try first | exact leafDraw (by kernel_rfl) | exact Leaf.mk trivial | (refine Leaf.mk ?_; omega) | (refine Leaf.mk ?_; unfold maxLen; omega)
  · refine Leaf.mk (ret1 (show false = rising xs from ?_))
    rw [eq_comm]; refine decide_eq_false fun hc => ?_
    have := hc i (by omega) hi
    rw [show ((i : Int) - 1).toNat = i - 1 by omega] at h
    rw [h] at this; cases this
  · refine Leaf.mk ⟨i + 1, rfl, ⟨by omega, fun j hj h1 => ?_⟩, by omega⟩
    by_cases hji : j = i
    · subst hji
      rwa [show ((j : Int) - 1).toNat = j - 1 by omega] at h
    · exact he j (by omega) h1
  · exact Leaf.mk (ret1 (show true = rising xs from (decide_eq_true (fun j hj h1 => he j (by omega) h1)).symm))
/-- Behind the last one that is less. -/
def addAt (k : List UInt8) (l : Tx) : Nat → Nat
  | 0 => 0
  | n + 1 => if sless (l.getD n []) k = true then n + 1 else addAt k l n
theorem addAt_le (k : List UInt8) (l : Tx) : ∀ n, addAt k l n ≤ n
  | 0 => Nat.le_refl _
  | n + 1 => by
    have := addAt_le k l n
    unfold addAt
    split <;> omega
def add (l : Tx) (k : List UInt8) : Tx := if has l k = true then l else l.take (addAt k l l.length) ++ ([k] ++ l.drop (addAt k l l.length))
def sAdd : PSpec := ⟨[.d TxT, .d .str], [⟨false, [.o 9 .str]⟩], fun x => List.length x.1 ≤ 1000, fun x => ((add x.1 x.2.1, ()), ())⟩
theorem pOverlapsS : XOk Try.prog 140 xOverlaps := xOverlaps_ok tabOk Try.func140 (by kernel_rfl) (by kernel_rfl) (by kernel_rfl) (by kernel_rfl) (t := 23) rfl rfl (by rfl)
def sInsertS : OSpec := ⟨9, .str, [.d (.int .i64), .o 9 .str], fun xs y => 0 ≤ y.1 ∧ y.1 ≤ (xs.length : Int) ∧ xs.length + List.length y.2.1 ≤ 1000000, fun xs y => xs.take y.1.toNat ++ (y.2.1 ++ xs.drop y.1.toNat)⟩
theorem fInsertS : FnOk Try.prog 83 := ⟨_, Try.func83, by decide, rfl⟩
theorem pInsertS : SpecOk Try.prog 83 sInsertS.spec := by
  refine oOk (T := tab) (S := (spOf [(140, xOverlaps)])) (keep := k83) (by kernel_rfl) tabOk (spCons (.inr pOverlapsS) spNil) (by kernel_rfl) Try.func83 (by kernel_rfl) (by decide) (by decide) fun xs ys k hg hgt hmax hp => ?_
  obtain ⟨i, vs, ⟨⟩⟩ := ys
  change List (List UInt8) at xs
  change List (List UInt8) at vs
  change Int at i
  change 0 ≤ i ∧ i ≤ (xs.length : Int) ∧ xs.length + vs.length ≤ 1000000 at hp
  clear hg hgt
  obtain ⟨i, rfl⟩ := Int.eq_ofNat_of_zero_le hp.1
  show vfun tab _ k83 Try.f83 [.vw 0 .str 0 xs.length true, .i .i64 i, .own 1] [(0, .raw 9 .str (xs.map some ++ List.replicate k (none : Option (Ty.den .str)))), (1, .arr 9 .str vs)] _
  refine Ev.out ?_
  repeat' (first | ((with_reducible refine Ev.mk ?_); conv => whnf) | (with_reducible refine And.intro ?_ ?_) | (intro h))
  all_goals (try simp only [decide_eq_true_eq, decide_eq_false_iff_not, beq_iff_eq, bne_iff_ne, beq_eq_false_iff_ne, bne_eq_false_iff_eq, Int.toNat_natCast, ge_iff_le, gt_iff_lt, Bool.not_eq_true', Bool.not_eq_false', Int.not_lt, Int.not_le, ne_eq] at *)
  all_goals (try dsimp only [Ty.den, Ty.dflt, .str] at *)
  all_goals (try simp only [eq4, ne4, eq3, ne3, eq2, ne2, Prod.eta, List.length_cons, List.length_nil, List.length_append, Nat.zero_add] at *)
  all_goals (try simp (disch := omega) only [wrap64] at *)
  all_goals (try simp only [Int.sub_zero, Int.toNat_natCast, Int.toNat_sub, Int.toNat_zero, Nat.zero_add, toNat_add', toNat_addsub, toNat_subadd, List.length_map, List.length_append, List.length_replicate, List.length_take, List.length_drop] at *)
  all_goals first | omega | skip
  all_goals try first | exact leafDraw (by kernel_rfl) | exact Leaf.mk trivial | (refine Leaf.mk ?_; omega) | (refine Leaf.mk ?_; unfold maxLen; omega)
  all_goals first
    | (refine Leaf.mk ?_; unfold maxLen at *; omega)
    | skip
  · refine Leaf.mk (readO_vw.trans (congrArg some (?_ : _ = (xs.take i ++ (vs ++ xs.drop i)).map some)))
    obtain rfl : vs = [] := List.eq_nil_of_length_eq_zero (by omega)
    change ((xs.map some ++ List.replicate k none).take _) = _
    rw [raw_take (by omega)]
    simp
  · refine Leaf.mk (readO_vw.trans (congrArg some (?_ : _ = (xs.take i ++ (vs ++ xs.drop i)).map some)))
    obtain rfl : i = xs.length := by omega
    change (List.take (α := Option (List UInt8)) _ _) = _
    rw [raw_take (by omega), tk3 (by simp)]
    simp
  · refine Leaf.mk (readO_vw.trans (congrArg some (?_ : _ = (xs.take i ++ (vs ++ xs.drop i)).map some)))
    obtain rfl : i = xs.length := by omega
    change (List.take (α := Option (List UInt8)) _ _) = _
    rw [raw_take (by omega), tk3 (by simp)]
    simp
  · refine Leaf.mk (?_ : (List.take _ (List.drop _ (xs.map some ++ List.replicate k none))).all Option.isSome = true); rw [raw_cut (by omega)]; exact raw_all
  · exact Leaf.mk (readO_vw.trans (congrArg some (ins_new (by omega) (by omega) (by omega))))
  · refine Leaf.mk (?_ : (List.take _ (List.drop _ (xs.map some ++ List.replicate k none))).all Option.isSome = true); rw [raw_cut (by omega)]; exact raw_all
  · exact Leaf.mk (readO_vw.trans (congrArg some (ins_in (by omega) (by omega))))
theorem fAdd : FnOk Try.prog 28 := ⟨_, Try.func28, by decide, rfl⟩
theorem pAdd : PSound Try.prog 28 sAdd := by
  refine psound (T := tab) (S := (spOf [(76, sCloneS.spec (lsOf [])), (82, sContainsS.spec (lsOf [])), (83, sInsertS.spec)])) (keep := k28) (by kernel_rfl) tabOk (spCons (pOk pCloneS fCloneS (by decide) lsNil) (spCons (pOk pContainsS fContainsS (by decide) lsNil) (spCons (.inl ⟨pInsertS, fInsertS⟩) spNil))) (by kernel_rfl) Try.func28 (by kernel_rfl) (by decide) fun xs hg hp => ?_
  obtain ⟨xs, k, ⟨⟩⟩ := xs
  change List (List UInt8) at xs
  change List UInt8 at k
  change xs.length ≤ 1000 at hp
  show vfun tab _ k28 Try.f28 [.sl .str xs, .s k] [] _
  refine Ev.out ?_
  repeat' (first | ((with_reducible refine Ev.mk ?_); conv => whnf) | (with_reducible refine And.intro ?_ ?_) | (intro h))
  all_goals (try simp only [decide_eq_true_eq, decide_eq_false_iff_not, beq_iff_eq, bne_iff_ne, beq_eq_false_iff_ne, bne_eq_false_iff_eq, Int.toNat_natCast, ge_iff_le, gt_iff_lt, Bool.not_eq_true', Bool.not_eq_false', Int.not_lt, Int.not_le, ne_eq] at *)
  all_goals (try dsimp only [Ty.den, Ty.dflt, TxT, sCloneS, sContainsS] at *)
  all_goals (try simp only [eq4, ne4, eq3, ne3, eq2, ne2, Prod.eta, List.length_cons, List.length_nil, List.length_append, Nat.zero_add] at *)
  all_goals (try simp (disch := omega) only [wrap64] at *)
  all_goals try first | exact leafDraw (by kernel_rfl) | exact Leaf.mk trivial | (refine Leaf.mk ?_; omega) | (refine Leaf.mk ?_; unfold maxLen; omega)
  · refine Leaf.mk (ret1 (show xs = add xs k from ?_))
    exact (if_pos h).symm
  have hA : add xs k = xs.take (addAt k xs xs.length) ++ ([k] ++ xs.drop (addAt k xs xs.length)) := if_neg (by rw [show has xs k = false from h]; simp)
  refine LoopVC.on (fun n : Nat => [(6, .i .i64 n)]) (fun _ => []) (fun n => n ≤ xs.length ∧ addAt k xs xs.length = addAt k xs n) (fun n => n) xs.length rfl ⟨Nat.le_refl _, rfl⟩ ?_
  intro n ⟨hn, he⟩
  repeat' (first | ((with_reducible refine Ev.mk ?_); conv => whnf) | (with_reducible refine And.intro ?_ ?_) | (intro h))
  all_goals (try simp only [decide_eq_true_eq, decide_eq_false_iff_not, beq_iff_eq, bne_iff_ne, beq_eq_false_iff_ne, bne_eq_false_iff_eq, Int.toNat_natCast, ge_iff_le, gt_iff_lt, Bool.not_eq_true', Bool.not_eq_false', Int.not_lt, Int.not_le, ne_eq] at *)
  all_goals (try dsimp only [Ty.den, Ty.dflt, TxT] at *)
  all_goals (try simp only [eq4, ne4, eq3, ne3, eq2, ne2, Prod.eta, List.length_cons, List.length_nil, List.length_append, Nat.zero_add] at *)
  all_goals (try simp (disch := omega) only [wrap64] at *)
  all_goals try first | exact leafDraw (by kernel_rfl) | exact Leaf.mk trivial | (refine Leaf.mk ?_; omega) | (refine Leaf.mk ?_; unfold maxLen; omega)
  · obtain ⟨m, rfl⟩ : ∃ m, n = m + 1 := ⟨n - 1, by omega⟩
    rw [show (((m + 1 : Nat) : Int) - 1).toNat = m by omega] at h
    rw [show ((m + 1 : Nat) : Int) - 1 = (m : Nat) by omega]
    refine Leaf.mk ⟨m, rfl, ⟨by omega, ?_⟩, by omega⟩
    rw [he, addAt, if_neg (by rw [h]; simp)]
  · exact Leaf.mk (show (0 : Int) ≤ (n : Int) ∧ (n : Int) ≤ (xs.length : Int) ∧ xs.length + 1 ≤ 1000000 by omega)
  · obtain ⟨m, rfl⟩ : ∃ m, n = m + 1 := ⟨n - 1, by omega⟩
    rw [show (((m + 1 : Nat) : Int) - 1).toNat = m by omega] at h
    have hs : addAt k xs xs.length = m + 1 := by rw [he, addAt, if_pos h]
    refine Leaf.mk (ret1 (show xs.take (m + 1) ++ ([k] ++ xs.drop (m + 1)) = add xs k from ?_))
    rw [hA, hs]
  · exact Leaf.mk (show (0 : Int) ≤ (n : Int) ∧ (n : Int) ≤ (xs.length : Int) ∧ xs.length + 1 ≤ 1000000 by omega)
  · obtain rfl : n = 0 := by omega
    have hs : addAt k xs xs.length = 0 := by rw [he, addAt]
    refine Leaf.mk (ret1 (show xs.take 0 ++ ([k] ++ xs.drop 0) = add xs k from ?_))
    rw [hA, hs]
end Go.Proofs.Ytlfehkoklgmjjaa
