import Derived.Test.YtlfehkoklgmjjaaQ6
import Derived.Test.YtlfehkoklgmjjaaEng4
/- Texts, one behind the other. -/
set_option linter.unusedVariables false
set_option linter.unusedSimpArgs false
set_option maxRecDepth 8000
set_option maxHeartbeats 4000000
namespace Go.Proofs.Ytlfehkoklgmjjaa
open Go.Eng
def sCloneX : PSpec := ⟨[.d (.slice TxnT)], [⟨false, [.o 144 TxnT]⟩], fun x => x.1.length ≤ 1000000, fun x => ((x.1, ()), ())⟩
theorem fCloneX : FnOk Try.prog 176 := ⟨_, Try.func176, by decide, rfl⟩
theorem pCloneX : PSound Try.prog 176 sCloneX := by
  refine psound (T := tab) (S := (spOf [])) (keep := k176) (by kernel_rfl) tabOk spNil (by kernel_rfl) Try.func176 (by kernel_rfl) (by decide) fun xs hg hp => ?_
  obtain ⟨xs, ⟨⟩⟩ := xs
  obtain ⟨⟨hl, -⟩, -⟩ := hg
  change List Txn at xs
  clear hl
  change xs.length ≤ 1000000 at hp
  show vfun tab _ k176 Try.f176 [.sl TxnT xs] [] _
  refine Ev.out ?_
  repeat' (first | ((with_reducible refine Ev.mk ?_); conv => whnf) | (with_reducible refine And.intro ?_ ?_) | (intro h))
  all_goals (try simp only [decide_eq_true_eq, decide_eq_false_iff_not, beq_iff_eq, bne_iff_ne, beq_eq_false_iff_ne, bne_eq_false_iff_eq, Int.toNat_natCast, ge_iff_le, gt_iff_lt, Bool.not_eq_true', Bool.not_eq_false', Int.not_lt, Int.not_le, ne_eq] at *)
  all_goals (try dsimp only [Ty.den, Ty.dflt, TxnT] at *)
  all_goals (try simp only [eq4, ne4, eq3, ne3, eq2, ne2, Prod.eta, List.length_cons, List.length_nil, List.length_append, Nat.zero_add] at *)
  all_goals (try simp (disch := omega) only [wrap64] at *)
  all_goals try first | exact leafDraw (by kernel_rfl) | exact Leaf.mk trivial | (refine Leaf.mk ?_; omega) | (refine Leaf.mk ?_; unfold maxLen; omega)
  all_goals first
    | (refine Leaf.mk (ret1 (show ([] : List Txn) = xs from ?_)); exact (List.eq_nil_of_length_eq_zero (by omega)).symm)
    | exact Leaf.mk (ret1 rfl)
    | skip
theorem set_same {α : Type} {l : List α} {i : Nat} {d : α} (h : i < l.length) : l.set i (l.getD i d) = l := by
  rw [List.getD_eq_getElem?_getD, List.getElem?_eq_getElem h]; exact List.set_getElem_self h
def okT (t : Tabl) : Prop := t.2.length ≤ 1000 ∧ ∀ x ∈ t.2, x.2.2.length ≤ 1000
def sOwn23 : PSpec := ⟨[.d TabT], [⟨true, [.d (.int .i64), .o 144 TxnT]⟩], fun x => okT x.1, fun x => ((x.1.1, (x.1.2, ())), ())⟩
theorem fOwn23 : FnOk Try.prog 143 := ⟨_, Try.func143, by decide, rfl⟩
theorem pOwn23 : PSound Try.prog 143 sOwn23 := by
  refine psound (T := tab) (S := (spOf [(176, sCloneX.spec (lsOf [])), (76, sCloneS.spec (lsOf []))])) (keep := k143) (by kernel_rfl) tabOk (spCons (pOk pCloneX fCloneX (by decide) lsNil) (spCons (pOk pCloneS fCloneS (by decide) lsNil) spNil)) (by kernel_rfl) Try.func143 (by kernel_rfl) (by decide) fun xs hg hp => ?_
  obtain ⟨⟨nx, l⟩, ⟨⟩⟩ := xs
  change List Txn at l
  change Int at nx
  change l.length ≤ 1000 ∧ ∀ x ∈ l, List.length x.2.2 ≤ 1000 at hp
  obtain ⟨hl, hk⟩ := hp
  clear hg
  show vfun tab _ k143 Try.f143 [.agg [.i .i64 nx, .sl TxnT l]] [] _
  refine Ev.out ?_
  repeat' (first | ((with_reducible refine Ev.mk ?_); conv => whnf) | (with_reducible refine And.intro ?_ ?_) | (intro h))
  all_goals (try simp only [decide_eq_true_eq, decide_eq_false_iff_not, beq_iff_eq, bne_iff_ne, beq_eq_false_iff_ne, bne_eq_false_iff_eq, Int.toNat_natCast, ge_iff_le, gt_iff_lt, Bool.not_eq_true', Bool.not_eq_false', Int.not_lt, Int.not_le, ne_eq] at *)
  all_goals (try dsimp only [Ty.den, Ty.dflt, TxnT, sCloneX] at *)
  all_goals (try simp only [eq4, ne4, eq3, ne3, eq2, ne2, Prod.eta, List.length_cons, List.length_nil, List.length_append, Nat.zero_add] at *)
  all_goals (try simp (disch := omega) only [wrap64] at *)
  all_goals try first | exact leafDraw (by kernel_rfl) | exact Leaf.mk trivial | (refine Leaf.mk ?_; omega) | (refine Leaf.mk ?_; unfold maxLen; omega)
  refine LoopVC.on (fun i : Nat => [(10, .i .i64 i)]) (fun _ => [(2, .arr 144 TxnT l)]) (fun i => i ≤ l.length) (fun i => l.length - i) 0 rfl (by omega) ?_
  intro i hi
  have hki : i < l.length → (l.getD i (0, 0, [])).2.2.length ≤ 1000 := fun h => hk _ (getD_mem _ h)
  repeat' (first | ((with_reducible refine Ev.mk ?_); conv => whnf) | (with_reducible refine And.intro ?_ ?_) | (intro h))
  all_goals (try simp only [decide_eq_true_eq, decide_eq_false_iff_not, beq_iff_eq, bne_iff_ne, beq_eq_false_iff_ne, bne_eq_false_iff_eq, Int.toNat_natCast, ge_iff_le, gt_iff_lt, Bool.not_eq_true', Bool.not_eq_false', Int.not_lt, Int.not_le, ne_eq] at *)
  all_goals (try dsimp only [Ty.den, Ty.dflt, TxnT, sCloneS] at *)
  all_goals (try simp only [eq4, ne4, eq3, ne3, eq2, ne2, Prod.eta, List.length_cons, List.length_nil, List.length_append, Nat.zero_add] at *)
  all_goals (try simp (disch := omega) only [wrap64] at *)
  all_goals try first | exact leafDraw (by kernel_rfl) | exact Leaf.mk trivial | (refine Leaf.mk ?_; omega) | (refine Leaf.mk ?_; unfold maxLen; omega)
  · have e := set_same (l := l) (i := i) (d := ((0, 0, []) : Txn)) (by omega)
    refine Leaf.mk (Exists.intro (i + 1) ⟨?_, by omega, by omega⟩)
    rw [e]; rfl
  · exact Leaf.mk rfl
def lPlace1X : LSpec := ⟨TxnT, .bool, [.bx (.int .i64)], fun x c => x.1 == c.1⟩
theorem fPlace1X : FnOk Try.prog 177 := ⟨_, Try.func177, by decide, rfl⟩
theorem pPlace1X : PSound Try.prog 177 lPlace1X.p := by
  refine psound (T := tab) (S := (spOf [])) (keep := k177) (by kernel_rfl) tabOk spNil (by kernel_rfl) Try.func177 (by kernel_rfl) (by decide) fun xs hg hp => ?_
  obtain ⟨⟨id, st, ks⟩, me, ⟨⟩⟩ := xs
  show vfun tab _ k177 Try.f177 [.agg [.i .i64 id, .i .i64 st, .sl .str ks], .rp [.i .i64 me]] [] _
  refine Ev.out ?_
  repeat' (first | ((with_reducible refine Ev.mk ?_); conv => whnf) | (with_reducible refine And.intro ?_ ?_) | (intro h))
  all_goals exact Leaf.mk rfl
def sPlace23 : PSpec := ⟨[.d TabT, .d (.int .i64)], [⟨false, [.d (.int .i64)]⟩], fun _ => True, fun x => ((idxF (fun s => s.1 == x.2.1) (x.1.2 : List Txn) 0, ()), ())⟩
theorem fPlace23 : FnOk Try.prog 148 := ⟨_, Try.func148, by decide, rfl⟩
theorem pPlace23 : PSound Try.prog 148 sPlace23 := by
  refine psound (T := tab) (S := (spOf [(157, sIndexFuncX.spec (lsOf [(177, lPlace1X)]))])) (keep := k148) (by kernel_rfl) tabOk (spCons (pOk pIndexFuncX fIndexFuncX (by decide) ((lsCons ⟨pPlace1X, fPlace1X⟩ lsNil))) spNil) (by kernel_rfl) Try.func148 (by kernel_rfl) (by decide) fun xs hg hp => ?_
  obtain ⟨⟨nx, l⟩, me, ⟨⟩⟩ := xs
  show vfun tab _ k148 Try.f148 [.agg [.i .i64 nx, .sl TxnT l], .i .i64 me] [] _
  refine Ev.out ?_
  repeat' (first | ((with_reducible refine Ev.mk ?_); conv => whnf) | (with_reducible refine And.intro ?_ ?_) | (intro h))
  all_goals (try simp only [decide_eq_true_eq, decide_eq_false_iff_not, beq_iff_eq, bne_iff_ne, beq_eq_false_iff_ne, bne_eq_false_iff_eq, Int.toNat_natCast, ge_iff_le, gt_iff_lt, Bool.not_eq_true', Bool.not_eq_false', Int.not_lt, Int.not_le, ne_eq] at *)
  all_goals (try dsimp only [Ty.den, Ty.dflt, TxnT] at *)
  all_goals (try simp only [eq4, ne4, eq3, ne3, eq2, ne2, Prod.eta, List.length_cons, List.length_nil, List.length_append, Nat.zero_add] at *)
  all_goals (try simp (disch := omega) only [wrap64] at *)
  · exact Leaf.mk trivial
  · exact Leaf.mk rfl
def sDeleteX : OSpec := ⟨144, TxnT, [.d (.int .i64), .d (.int .i64)], fun xs y => 0 ≤ y.1 ∧ y.1 ≤ y.2.1 ∧ y.2.1 ≤ (xs.length : Int) ∧ xs.length ≤ 1000000, fun xs y => xs.take y.1.toNat ++ xs.drop y.2.1.toNat⟩
theorem fDeleteX : FnOk Try.prog 146 := ⟨_, Try.func146, by decide, rfl⟩
theorem pDeleteX : SpecOk Try.prog 146 sDeleteX.spec := by
  refine oOk (T := tab) (S := (spOf [])) (keep := k146) (by kernel_rfl) tabOk spNil (by kernel_rfl) Try.func146 (by kernel_rfl) (by decide) (by decide) fun xs ys k hg hgt hmax hp => ?_
  obtain ⟨i, j, ⟨⟩⟩ := ys
  change List Txn at xs
  change Int at i
  change Int at j
  change 0 ≤ i ∧ i ≤ j ∧ j ≤ (xs.length : Int) ∧ xs.length ≤ 1000000 at hp
  clear hg hgt
  obtain ⟨i, rfl⟩ := Int.eq_ofNat_of_zero_le hp.1
  obtain ⟨j, rfl⟩ := Int.eq_ofNat_of_zero_le (show 0 ≤ j by omega)
  show vfun tab _ k146 Try.f146 [.vw 0 TxnT 0 xs.length true, .i .i64 i, .i .i64 j] [(0, .raw 144 TxnT (xs.map some ++ List.replicate k (none : Option (Ty.den TxnT))))] _
  refine Ev.out ?_
  repeat' (first | ((with_reducible refine Ev.mk ?_); conv => whnf) | (with_reducible refine And.intro ?_ ?_) | (intro h))
  all_goals (try simp only [decide_eq_true_eq, decide_eq_false_iff_not, beq_iff_eq, bne_iff_ne, beq_eq_false_iff_ne, bne_eq_false_iff_eq, Int.toNat_natCast, ge_iff_le, gt_iff_lt, Bool.not_eq_true', Bool.not_eq_false', Int.not_lt, Int.not_le, ne_eq] at *)
  all_goals (try dsimp only [Ty.den, Ty.dflt, TxnT] at *)
  all_goals (try simp only [eq4, ne4, eq3, ne3, eq2, ne2, Prod.eta, List.length_cons, List.length_nil, List.length_append, Nat.zero_add] at *)
  all_goals (try simp (disch := omega) only [wrap64] at *)
  all_goals (try simp only [Int.sub_zero, Int.toNat_natCast, Int.toNat_sub, Int.toNat_zero, Nat.zero_add, toNat_add', toNat_addsub, toNat_subadd, List.length_map, List.length_append, List.length_replicate, List.length_take, List.length_drop] at *)
  all_goals first | omega | skip
  all_goals try first | exact leafDraw (by kernel_rfl) | exact Leaf.mk trivial | (refine Leaf.mk ?_; omega) | (refine Leaf.mk ?_; unfold maxLen; omega)
  all_goals first
    | (refine Leaf.mk ?_; unfold maxLen at *; omega)
    | skip
  · refine Leaf.mk (readO_vw.trans (congrArg some (?_ : _ = (xs.take i ++ xs.drop j).map some)))
    obtain rfl : i = j := by omega
    change ((xs.map some ++ List.replicate k none).take _) = _
    rw [raw_take (by omega)]
    simp
  · refine Leaf.mk (?_ : (List.take _ (List.drop _ (xs.map some ++ List.replicate k none))).all Option.isSome = true); rw [raw_cut (by omega)]; exact raw_all
  · refine Leaf.mk (readO_vw.trans (congrArg some (?_ : _ = (xs.take i ++ xs.drop j).map some)))
    change List.take (α := Option Txn) _ _ = _
    rw [Nat.min_eq_left (by omega), raw_cut (by omega), raw_take (by omega), map_some_getD]
    rw [show (xs.drop j).take (xs.length - j) = xs.drop j from List.take_of_length_le (by simp), ← List.map_append]
    rw [List.append_assoc (List.take _ _), List.take_append_of_le_length, List.take_take, Nat.min_self, List.take_append_of_le_length, List.take_of_length_le]
    all_goals simp
    all_goals omega
def beginT (t : Tabl) (st : Int) : Tabl × Int × Int :=
  if 8 ≤ t.2.length then (t, 0, 16) else if inB st = false ∨ t.1 < 0 ∨ 1099511627776 ≤ t.1 then (t, 0, 9) else ((t.1 + 1, t.2 ++ [(t.1, st, [])]), t.1, 0)
theorem retBeg {u v : Tabl × Int × Int} (h : u = v) : (some ((u.1, ()), (u.2.1, ()), (u.2.2, ()), ()) : Option ((Tabl × Unit) × (Int × Unit) × (Int × Unit) × Unit)) = some ((v.1, ()), (v.2.1, ()), (v.2.2, ()), ()) := by rw [h]
def sBegin : PSpec := ⟨[.d TabT, .d (.int .i64)], [⟨true, [.d TabT]⟩, ⟨false, [.d (.int .i64)]⟩, ⟨false, [.d (.int .i64)]⟩], fun x => okT x.1, fun x => (((beginT x.1 x.2.1).1, ()), ((beginT x.1 x.2.1).2.1, ()), ((beginT x.1 x.2.1).2.2, ()), ())⟩
theorem fBegin : FnOk Try.prog 87 := ⟨_, Try.func87, by decide, rfl⟩
theorem pBegin : PSound Try.prog 87 sBegin := by
  refine psound (T := tab) (S := (spOf [(143, sOwn23.spec (lsOf [])), (106, sTIn.spec (lsOf []))])) (keep := k87) (by kernel_rfl) tabOk (spCons (pOk pOwn23 fOwn23 (by decide) lsNil) (spCons (pOk pTIn fTIn (by decide) lsNil) spNil)) (by kernel_rfl) Try.func87 (by kernel_rfl) (by decide) fun xs hg hp => ?_
  obtain ⟨⟨nx, l⟩, st, ⟨⟩⟩ := xs
  change List Txn at l
  change Int at nx st
  have hp' : l.length ≤ 1000 ∧ ∀ x ∈ l, List.length x.2.2 ≤ 1000 := hp
  have hl := hp'.1
  clear hg
  show vfun tab _ k87 Try.f87 [.agg [.i .i64 nx, .sl TxnT l], .i .i64 st] [] _
  refine Ev.out ?_
  repeat' (first | ((with_reducible refine Ev.mk ?_); conv => whnf) | (with_reducible refine And.intro ?_ ?_) | (intro h))
  all_goals (try simp only [decide_eq_true_eq, decide_eq_false_iff_not, beq_iff_eq, bne_iff_ne, beq_eq_false_iff_ne, bne_eq_false_iff_eq, Int.toNat_natCast, ge_iff_le, gt_iff_lt, Bool.not_eq_true', Bool.not_eq_false', Int.not_lt, Int.not_le, ne_eq] at *)
  all_goals (try dsimp only [Ty.den, Ty.dflt, TxnT, sOwn23, sTIn] at *)
  all_goals (try simp only [eq4, ne4, eq3, ne3, eq2, ne2, Prod.eta, List.length_cons, List.length_nil, List.length_append, Nat.zero_add] at *)
  all_goals (try simp (disch := omega) only [wrap64] at *)
  all_goals try first | exact leafDraw (by kernel_rfl) | exact Leaf.mk trivial | (refine Leaf.mk ?_; omega) | (refine Leaf.mk ?_; unfold maxLen; omega)
  · exact Leaf.mk hp
  · exact Leaf.mk (retBeg (u := ((nx, l), 0, 16)) (v := beginT (nx, l) st) (if_pos (show 8 ≤ l.length by omega)).symm)
  all_goals have h8 : beginT (nx, l) st = if inB st = false ∨ nx < 0 ∨ 1099511627776 ≤ nx then ((nx, l), 0, 9) else ((nx + 1, l ++ [(nx, st, [])]), nx, 0) := if_neg (show ¬ 8 ≤ l.length by omega)
  · exact Leaf.mk (retBeg (u := ((nx, l), 0, 9)) (v := beginT (nx, l) st) (h8.trans (if_pos (.inl ‹_›))).symm)
  · exact Leaf.mk (retBeg (u := ((nx, l), 0, 9)) (v := beginT (nx, l) st) (h8.trans (if_pos (.inr (.inl ‹_›)))).symm)
  · exact Leaf.mk (retBeg (u := ((nx, l), 0, 9)) (v := beginT (nx, l) st) (h8.trans (if_pos (.inr (.inr ‹_›)))).symm)
  · exact Leaf.mk (retBeg (u := ((nx + 1, l ++ [(nx, st, [])]), nx, 0)) (v := beginT (nx, l) st) (h8.trans (if_neg (fun hc => hc.elim (fun h9 => by rw [‹inB st = true›] at h9; cases h9) fun h9 => by omega))).symm)
def sFind23 : PSpec := ⟨[.d TabT, .d (.int .i64)], [⟨true, [.d TxnT]⟩, ⟨false, [.d .bool]⟩], fun x => okT x.1, fun x => if idxF (fun s => s.1 == x.2.1) (x.1.2 : List Txn) 0 < 0 then ((txn0, ()), (false, ()), ()) else ((List.getD x.1.2 (idxF (fun s => s.1 == x.2.1) (x.1.2 : List Txn) 0).toNat txn0, ()), (true, ()), ())⟩
theorem fFind23 : FnOk Try.prog 90 := ⟨_, Try.func90, by decide, rfl⟩
theorem pFind23 : PSound Try.prog 90 sFind23 := by
  refine psound (T := tab) (S := (spOf [(143, sOwn23.spec (lsOf [])), (148, sPlace23.spec (lsOf []))])) (keep := k90) (by kernel_rfl) tabOk (spCons (pOk pOwn23 fOwn23 (by decide) lsNil) (spCons (pOk pPlace23 fPlace23 (by decide) lsNil) spNil)) (by kernel_rfl) Try.func90 (by kernel_rfl) (by decide) fun xs hg hp => ?_
  obtain ⟨⟨nx, l⟩, me, ⟨⟩⟩ := xs
  change List Txn at l
  change Int at nx me
  have hp' : l.length ≤ 1000 ∧ ∀ x ∈ l, List.length x.2.2 ≤ 1000 := hp
  clear hg
  show vfun tab _ k90 Try.f90 [.agg [.i .i64 nx, .sl TxnT l], .i .i64 me] [] _
  refine Ev.out ?_
  repeat' (first | ((with_reducible refine Ev.mk ?_); conv => whnf) | (with_reducible refine And.intro ?_ ?_) | (intro h))
  all_goals (try simp only [decide_eq_true_eq, decide_eq_false_iff_not, beq_iff_eq, bne_iff_ne, beq_eq_false_iff_ne, bne_eq_false_iff_eq, Int.toNat_natCast, ge_iff_le, gt_iff_lt, Bool.not_eq_true', Bool.not_eq_false', Int.not_lt, Int.not_le, ne_eq] at *)
  all_goals (try dsimp only [Ty.den, Ty.dflt, TxnT, sOwn23, sPlace23] at *)
  all_goals (try simp only [eq4, ne4, eq3, ne3, eq2, ne2, Prod.eta, List.length_cons, List.length_nil, List.length_append, Nat.zero_add] at *)
  all_goals (try simp (disch := omega) only [wrap64] at *)
  all_goals try first | exact leafDraw (by kernel_rfl) | exact Leaf.mk trivial | (refine Leaf.mk ?_; omega) | (refine Leaf.mk ?_; unfold maxLen; omega)
  all_goals
    have hz := idxF_pos (fun s : Txn => s.1 == me) l 0
    dsimp only [Txn] at hz
  all_goals first
    | (refine Leaf.mk ?_; omega)
    | exact Leaf.mk hp
    | exact Leaf.mk (congrArg some (show sFind23.fn ((nx, l), me, PUnit.unit) = ((txn0, ()), (false, ()), ()) from if_pos (by assumption)).symm)
    | exact Leaf.mk (congrArg some (show sFind23.fn ((nx, l), me, PUnit.unit) = ((l.getD (idxF (fun s : Txn => s.1 == me) l 0).toNat txn0, ()), (true, ()), ()) from if_neg (Int.not_lt.2 (by assumption))).symm)
def sIDs : PSpec := ⟨[.d TabT], [⟨false, [.d (.slice (.int .i64))]⟩], fun x => okT x.1, fun x => ((x.1.2.map fun s => s.1, ()), ())⟩
theorem fIDs : FnOk Try.prog 91 := ⟨_, Try.func91, by decide, rfl⟩
theorem pIDs : PSound Try.prog 91 sIDs := by
  refine psound (T := tab) (S := (spOf [])) (keep := k91) (by kernel_rfl) tabOk spNil (by kernel_rfl) Try.func91 (by kernel_rfl) (by decide) fun xs hg hp => ?_
  obtain ⟨⟨nx, l⟩, ⟨⟩⟩ := xs
  change List Txn at l
  change Int at nx
  change l.length ≤ 1000 ∧ ∀ x ∈ l, List.length x.2.2 ≤ 1000 at hp
  have hl := hp.1
  clear hg
  show vfun tab _ k91 Try.f91 [.agg [.i .i64 nx, .sl TxnT l]] [] _
  refine Ev.out ?_
  repeat' (first | ((with_reducible refine Ev.mk ?_); conv => whnf) | (with_reducible refine And.intro ?_ ?_) | (intro h))
  all_goals (try simp only [decide_eq_true_eq, decide_eq_false_iff_not, beq_iff_eq, bne_iff_ne, beq_eq_false_iff_ne, bne_eq_false_iff_eq, Int.toNat_natCast, ge_iff_le, gt_iff_lt, Bool.not_eq_true', Bool.not_eq_false', Int.not_lt, Int.not_le, ne_eq] at *)
  all_goals (try dsimp only [Ty.den, Ty.dflt, TxnT] at *)
  all_goals (try simp only [eq4, ne4, eq3, ne3, eq2, ne2, Prod.eta, List.length_cons, List.length_nil, List.length_append, Nat.zero_add] at *)
  all_goals (try simp (disch := omega) only [wrap64] at *)
  all_goals try first | exact leafDraw (by kernel_rfl) | exact Leaf.mk trivial | (refine Leaf.mk ?_; omega) | (refine Leaf.mk ?_; unfold maxLen; omega)
  refine LoopVC.weak [(.slot 3, .nil 3 (.int .i64))] (fun i : Nat => [(9, .i .i64 i)]) (fun i => [(0, .arr 3 (.int .i64) ((l.take i).map fun s => s.1))]) (fun i => i ≤ l.length) (fun i => l.length - i) 0 (Ev.mk ?_)
  (conv => whnf)
  refine ⟨Leaf.mk ?_, Leaf.mk ?_, ?_⟩
  · rfl
  · omega
  intro i hi
  have hlm : ((l.take i).map fun s : Txn => s.1).length = i := by rw [List.length_map, List.length_take]; omega
  repeat' (first | ((with_reducible refine Ev.mk ?_); conv => whnf) | (with_reducible refine And.intro ?_ ?_) | (intro h))
  all_goals (try simp only [decide_eq_true_eq, decide_eq_false_iff_not, beq_iff_eq, bne_iff_ne, beq_eq_false_iff_ne, bne_eq_false_iff_eq, Int.toNat_natCast, ge_iff_le, gt_iff_lt, Bool.not_eq_true', Bool.not_eq_false', Int.not_lt, Int.not_le, ne_eq] at *)
  all_goals (try dsimp only [Ty.den, Ty.dflt, TxnT] at *)
  all_goals (try simp only [eq4, ne4, eq3, ne3, eq2, ne2, Prod.eta, List.length_cons, List.length_nil, List.length_append, Nat.zero_add] at *)
  all_goals (try simp (disch := omega) only [wrap64] at *)
  all_goals try first | exact leafDraw (by kernel_rfl) | exact Leaf.mk trivial | (refine Leaf.mk ?_; omega) | (refine Leaf.mk ?_; unfold maxLen; omega)
  all_goals first
    | (refine Leaf.mk ?_; rw [hlm]; omega)
    | (refine Leaf.mk ?_; rw [hlm]; unfold maxLen; omega)
    | (have e := map_at (f := fun s : Txn => s.1) txn0 (xs := l) (i := i) (by omega)
       refine Leaf.mk (Exists.intro (i + 1) ⟨?_, by omega, by omega⟩)
       exact congrArg (fun z => St.mk [(3, .own 0), (7, .sl TxnT l), (8, .i .i64 l.length), (9, .i .i64 ((i : Int) + 1))] [(0, .arr 3 (.int .i64) z)]) e.symm)
    | (refine Leaf.mk (ret1 (show ((l.take i).map fun s : Txn => s.1) = l.map fun s => s.1 from ?_))
       rw [List.take_of_length_le (by omega)])
    | skip
def sOldest : PSpec := ⟨[.d TabT, .d (.int .i64)], [⟨false, [.d (.int .i64)]⟩], fun x => okT x.1, fun x => ((x.1.2.foldl (fun n s => if s.2.1 < n then s.2.1 else n) x.2.1, ()), ())⟩
theorem fOldest : FnOk Try.prog 92 := ⟨_, Try.func92, by decide, rfl⟩
theorem pOldest : PSound Try.prog 92 sOldest := by
  refine psound (T := tab) (S := (spOf [])) (keep := k92) (by kernel_rfl) tabOk spNil (by kernel_rfl) Try.func92 (by kernel_rfl) (by decide) fun xs hg hp => ?_
  obtain ⟨⟨nx, l⟩, now, ⟨⟩⟩ := xs
  change List Txn at l
  change Int at nx now
  change l.length ≤ 1000 ∧ ∀ x ∈ l, List.length x.2.2 ≤ 1000 at hp
  have hl := hp.1
  clear hg
  show vfun tab _ k92 Try.f92 [.agg [.i .i64 nx, .sl TxnT l], .i .i64 now] [] _
  refine Ev.out ?_
  repeat' (first | ((with_reducible refine Ev.mk ?_); conv => whnf) | (with_reducible refine And.intro ?_ ?_) | (intro h))
  all_goals (try simp only [decide_eq_true_eq, decide_eq_false_iff_not, beq_iff_eq, bne_iff_ne, beq_eq_false_iff_ne, bne_eq_false_iff_eq, Int.toNat_natCast, ge_iff_le, gt_iff_lt, Bool.not_eq_true', Bool.not_eq_false', Int.not_lt, Int.not_le, ne_eq] at *)
  all_goals (try dsimp only [Ty.den, Ty.dflt, TxnT] at *)
  all_goals (try simp only [eq4, ne4, eq3, ne3, eq2, ne2, Prod.eta, List.length_cons, List.length_nil, List.length_append, Nat.zero_add] at *)
  all_goals (try simp (disch := omega) only [wrap64] at *)
  all_goals try first | exact leafDraw (by kernel_rfl) | exact Leaf.mk trivial | (refine Leaf.mk ?_; omega) | (refine Leaf.mk ?_; unfold maxLen; omega)
  refine LoopVC.on (fun i : Nat => [(1, .i .i64 ((l.take i).foldl (fun n s => if s.2.1 < n then s.2.1 else n) now)), (10, .i .i64 i)]) (fun _ => []) (fun i => i ≤ l.length) (fun i => l.length - i) 0 rfl (by omega) ?_
  intro i hi
  repeat' (first | ((with_reducible refine Ev.mk ?_); conv => whnf) | (with_reducible refine And.intro ?_ ?_) | (intro h))
  all_goals (try simp only [decide_eq_true_eq, decide_eq_false_iff_not, beq_iff_eq, bne_iff_ne, beq_eq_false_iff_ne, bne_eq_false_iff_eq, Int.toNat_natCast, ge_iff_le, gt_iff_lt, Bool.not_eq_true', Bool.not_eq_false', Int.not_lt, Int.not_le, ne_eq] at *)
  all_goals (try dsimp only [Ty.den, Ty.dflt, TxnT] at *)
  all_goals (try simp only [eq4, ne4, eq3, ne3, eq2, ne2, Prod.eta, List.length_cons, List.length_nil, List.length_append, Nat.zero_add] at *)
  all_goals (try simp (disch := omega) only [wrap64] at *)
  all_goals try first | exact leafDraw (by kernel_rfl) | exact Leaf.mk trivial | (refine Leaf.mk ?_; omega) | (refine Leaf.mk ?_; unfold maxLen; omega)
  all_goals first
    | (have e := foldl_at (f := fun (n : Int) (s : Txn) => if s.2.1 < n then s.2.1 else n) (b := now) txn0 (xs := l) (i := i) (by omega)
       refine Leaf.mk (Exists.intro (i + 1) ⟨?_, by omega, by omega⟩)
       exact congrArg (fun z => St.mk [(1, .i .i64 z), (8, .sl TxnT l), (9, .i .i64 l.length), (10, .i .i64 ((i : Int) + 1))] []) e.symm)
    | (refine Leaf.mk (ret1 (show (l.take i).foldl (fun (n : Int) (s : Txn) => if s.2.1 < n then s.2.1 else n) now = l.foldl (fun (n : Int) (s : Txn) => if s.2.1 < n then s.2.1 else n) now from ?_))
       rw [List.take_of_length_le (by omega)])
    | skip
end Go.Proofs.Ytlfehkoklgmjjaa

set_option linter.unusedVariables false
set_option linter.unusedSimpArgs false
set_option maxRecDepth 8000
set_option maxHeartbeats 4000000
namespace Go.Proofs.Ytlfehkoklgmjjaa
open Go.Eng
theorem fWrote1 : FnOk Try.prog 147 := ⟨_, Try.func147, by decide, rfl⟩
noncomputable def iWrote1 : Eng.Spec := inlb tab (spOf [(28, sAdd.spec (lsOf []))]) k147 Try.f147
theorem pWrote1 : SpecOk Try.prog 147 iWrote1 := inlb_ok tabOk (spCons (pOk pAdd fAdd (by decide) lsNil) spNil) (by kernel_rfl) Try.func147 (by kernel_rfl)
def placeT (t : Tabl) (me : Int) : Int := idxF (fun s => s.1 == me) t.2 0
def wroteT (t : Tabl) (me : Int) (k : List UInt8) : Tabl := if placeT t me < 0 then t else (t.1, t.2.set (placeT t me).toNat ((t.2.getD (placeT t me).toNat txn0).1, (t.2.getD (placeT t me).toNat txn0).2.1, add (t.2.getD (placeT t me).toNat txn0).2.2 k))
def sChangeW : PSpec := ⟨[.d TabT, .d (.int .i64), .fb 147 .str], [⟨true, [.d TabT]⟩, ⟨false, [.d .bool]⟩], fun x => okT x.1, fun x => ((wroteT x.1 x.2.1 x.2.2.1, ()), (decide (0 ≤ placeT x.1 x.2.1), ()), ())⟩
theorem retC {u v : Tabl × Bool} (h : u = v) : (some ((u.1, ()), (u.2, ()), ()) : Option ((Tabl × Unit) × (Bool × Unit) × Unit)) = some ((v.1, ()), (v.2, ()), ()) := by rw [h]
theorem fChangeW : FnOk Try.prog 144 := ⟨_, Try.func144, by decide, rfl⟩
theorem pChangeW : PSound Try.prog 144 sChangeW := by
  refine psound (T := tab) (S := (spOf [(143, sOwn23.spec (lsOf [])), (148, sPlace23.spec (lsOf [])), (147, iWrote1)])) (keep := k144) (by kernel_rfl) tabOk (spCons (pOk pOwn23 fOwn23 (by decide) lsNil) (spCons (pOk pPlace23 fPlace23 (by decide) lsNil) (spCons (.inl ⟨pWrote1, fWrote1⟩) spNil))) (by kernel_rfl) Try.func144 (by kernel_rfl) (by decide) fun xs hg hp => ?_
  obtain ⟨⟨nx, l⟩, me, k, ⟨⟩⟩ := xs
  change List Txn at l
  change Int at nx me
  change List UInt8 at k
  have hp' : l.length ≤ 1000 ∧ ∀ x ∈ l, List.length x.2.2 ≤ 1000 := hp
  have hz := idxF_pos (fun s : Txn => s.1 == me) l 0
  have hlt : 0 ≤ idxF (fun s : Txn => s.1 == me) l 0 → (idxF (fun s : Txn => s.1 == me) l 0).toNat < l.length := fun h => by omega
  dsimp only [Txn] at hz
  clear hg
  show vfun tab _ k144 Try.f144 [.agg [.i .i64 nx, .sl TxnT l], .i .i64 me, .fn 147 [.rp [.s k]]] [] _
  refine Ev.out ?_
  repeat' (first | ((with_reducible refine Ev.mk ?_); conv => whnf) | (with_reducible refine And.intro ?_ ?_) | (intro h))
  all_goals (try simp only [decide_eq_true_eq, decide_eq_false_iff_not, beq_iff_eq, bne_iff_ne, beq_eq_false_iff_ne, bne_eq_false_iff_eq, Int.toNat_natCast, ge_iff_le, gt_iff_lt, Bool.not_eq_true', Bool.not_eq_false', Int.not_lt, Int.not_le, ne_eq] at *)
  all_goals (try dsimp only [Ty.den, Ty.dflt, TxnT, sOwn23, sPlace23] at *)
  all_goals (try simp only [eq4, ne4, eq3, ne3, eq2, ne2, Prod.eta, List.length_cons, List.length_nil, List.length_append, Nat.zero_add] at *)
  all_goals (try simp (disch := omega) only [wrap64] at *)
  all_goals try first | exact leafDraw (by kernel_rfl) | exact Leaf.mk trivial | (refine Leaf.mk ?_; omega) | (refine Leaf.mk ?_; unfold maxLen; omega)
  all_goals first
    | (refine Leaf.mk ?_; omega)
    | exact Leaf.mk hp
    | exact Leaf.mk (show (l.getD (idxF (fun s => s.1 == me) l 0).toNat txn0).2.2.length ≤ 1000 from hp'.2 _ (getD_mem txn0 (hlt (by assumption))))
    | exact Leaf.mk (retC (u := ((nx, l), false)) (v := (wroteT (nx, l) me k, decide (0 ≤ placeT (nx, l) me))) (Prod.ext (if_pos (by assumption)).symm (decide_eq_false (Int.not_le.2 (by assumption))).symm))
    | exact Leaf.mk (retC (u := ((nx, l.set (placeT (nx, l) me).toNat ((l.getD (placeT (nx, l) me).toNat txn0).1, (l.getD (placeT (nx, l) me).toNat txn0).2.1, add (l.getD (placeT (nx, l) me).toNat txn0).2.2 k)), true)) (v := (wroteT (nx, l) me k, decide (0 ≤ placeT (nx, l) me))) (Prod.ext (if_neg (Int.not_lt.2 (by assumption))).symm (decide_eq_true (by assumption)).symm))
    | skip
def sWrote : PSpec := ⟨[.d TabT, .d (.int .i64), .d .str], [⟨true, [.d TabT]⟩], fun x => okT x.1, fun x => ((wroteT x.1 x.2.1 x.2.2.1, ()), ())⟩
theorem fWrote : FnOk Try.prog 89 := ⟨_, Try.func89, by decide, rfl⟩
theorem pWrote : PSound Try.prog 89 sWrote := by
  refine psound (T := (rbT tab)) (S := (spOf [(144, sChangeW.spec (lsOf []))])) (keep := k89) (by kernel_rfl) (rbT_ok tabOk) (spCons (pOk pChangeW fChangeW (by decide) lsNil) spNil) (by kernel_rfl) Try.func89 (by kernel_rfl) (by decide) fun xs hg hp => ?_
  obtain ⟨⟨nx, l⟩, me, k, ⟨⟩⟩ := xs
  change List Txn at l
  change Int at nx me
  change List UInt8 at k
  have hp' : l.length ≤ 1000 ∧ ∀ x ∈ l, List.length x.2.2 ≤ 1000 := hp
  clear hg
  show vfun (rbT tab) _ k89 Try.f89 [.agg [.i .i64 nx, .sl TxnT l], .i .i64 me, .s k] [] _
  refine Ev.out ?_
  repeat' (first | ((with_reducible refine Ev.mk ?_); conv => whnf) | (with_reducible refine And.intro ?_ ?_) | (intro h))
  all_goals (try simp only [decide_eq_true_eq, decide_eq_false_iff_not, beq_iff_eq, bne_iff_ne, beq_eq_false_iff_ne, bne_eq_false_iff_eq, Int.toNat_natCast, ge_iff_le, gt_iff_lt, Bool.not_eq_true', Bool.not_eq_false', Int.not_lt, Int.not_le, ne_eq] at *)
  all_goals (try dsimp only [Ty.den, Ty.dflt, TxnT, sOwn23, sPlace23] at *)
  all_goals (try simp only [eq4, ne4, eq3, ne3, eq2, ne2, Prod.eta, List.length_cons, List.length_nil, List.length_append, Nat.zero_add] at *)
  all_goals (try simp (disch := omega) only [wrap64] at *)
  all_goals try first | exact leafDraw (by kernel_rfl) | exact Leaf.mk trivial | (refine Leaf.mk ?_; omega) | (refine Leaf.mk ?_; unfold maxLen; omega)
  all_goals first
    | exact Leaf.mk hp
    | exact Leaf.mk rfl
theorem retB2 {u v : Tabl × Int} (h : u = v) : (some ((u.1, ()), (u.2, ()), ()) : Option ((Tabl × Unit) × (Int × Unit) × Unit)) = some ((v.1, ()), (v.2, ()), ()) := by rw [h]
def endT (t : Tabl) (me : Int) : Tabl × Bool := if placeT t me < 0 then (t, false) else ((t.1, t.2.take (placeT t me).toNat ++ t.2.drop ((placeT t me).toNat + 1)), true)
theorem fEnd1 : FnOk Try.prog 145 := ⟨_, Try.func145, by decide, rfl⟩
noncomputable def iEnd1 : Eng.Spec := inlb tab (spOf [(146, sDeleteX.spec)]) k145 Try.f145
theorem pEnd1 : SpecOk Try.prog 145 iEnd1 := inlb_ok tabOk (spCons (.inl ⟨pDeleteX, fDeleteX⟩) spNil) (by kernel_rfl) Try.func145 (by kernel_rfl)
def sChangeE : PSpec := ⟨[.d TabT, .d (.int .i64), .f0 145], [⟨true, [.d TabT]⟩, ⟨false, [.d .bool]⟩], fun x => okT x.1, fun x => (((endT x.1 x.2.1).1, ()), ((endT x.1 x.2.1).2, ()), ())⟩
theorem fChangeE : FnOk Try.prog 144 := ⟨_, Try.func144, by decide, rfl⟩
theorem pChangeE : PSound Try.prog 144 sChangeE := by
  refine psound (T := tab) (S := (spOf [(143, sOwn23.spec (lsOf [])), (148, sPlace23.spec (lsOf [])), (145, iEnd1)])) (keep := k144) (by kernel_rfl) tabOk (spCons (pOk pOwn23 fOwn23 (by decide) lsNil) (spCons (pOk pPlace23 fPlace23 (by decide) lsNil) (spCons (.inl ⟨pEnd1, fEnd1⟩) spNil))) (by kernel_rfl) Try.func144 (by kernel_rfl) (by decide) fun xs hg hp => ?_
  obtain ⟨⟨nx, l⟩, me, ⟨⟩, ⟨⟩⟩ := xs
  change List Txn at l
  change Int at nx me
  have hp' : l.length ≤ 1000 ∧ ∀ x ∈ l, List.length x.2.2 ≤ 1000 := hp
  have hz := idxF_pos (fun s : Txn => s.1 == me) l 0
  have hlt : 0 ≤ idxF (fun s : Txn => s.1 == me) l 0 → (idxF (fun s : Txn => s.1 == me) l 0).toNat < l.length := fun h => by omega
  dsimp only [Txn] at hz
  clear hg
  show vfun tab _ k144 Try.f144 [.agg [.i .i64 nx, .sl TxnT l], .i .i64 me, .fn 145 []] [] _
  refine Ev.out ?_
  repeat' (first | ((with_reducible refine Ev.mk ?_); conv => whnf) | (with_reducible refine And.intro ?_ ?_) | (intro h))
  all_goals (try simp only [decide_eq_true_eq, decide_eq_false_iff_not, beq_iff_eq, bne_iff_ne, beq_eq_false_iff_ne, bne_eq_false_iff_eq, Int.toNat_natCast, ge_iff_le, gt_iff_lt, Bool.not_eq_true', Bool.not_eq_false', Int.not_lt, Int.not_le, ne_eq] at *)
  all_goals (try dsimp only [Ty.den, Ty.dflt, TxnT, sOwn23, sPlace23] at *)
  all_goals (try simp only [eq4, ne4, eq3, ne3, eq2, ne2, Prod.eta, List.length_cons, List.length_nil, List.length_append, Nat.zero_add] at *)
  all_goals (try simp (disch := omega) only [wrap64] at *)
  all_goals try first | exact leafDraw (by kernel_rfl) | exact Leaf.mk trivial | (refine Leaf.mk ?_; omega) | (refine Leaf.mk ?_; unfold maxLen; omega)
  all_goals first
    | exact Leaf.mk hp
    | exact Leaf.mk (retC (u := ((nx, l), false)) (v := endT (nx, l) me) (if_pos (by assumption)).symm)
    | (have h0 : 0 ≤ placeT (nx, l) me := by assumption
       have h1 : (placeT (nx, l) me).toNat < l.length := hlt h0
       exact Leaf.mk (show 0 ≤ placeT (nx, l) me ∧ placeT (nx, l) me ≤ placeT (nx, l) me + 1 ∧ placeT (nx, l) me + 1 ≤ (l.length : Int) ∧ l.length ≤ 1000000 by omega))
    | skip
  refine Leaf.mk (retC (u := ((nx, l.take (placeT (nx, l) me).toNat ++ l.drop (placeT (nx, l) me + 1).toNat), true)) (v := endT (nx, l) me) ?_)
  have h0 : 0 ≤ placeT (nx, l) me := by assumption
  have e9 : endT (nx, l) me = ((nx, l.take (placeT (nx, l) me).toNat ++ l.drop ((placeT (nx, l) me).toNat + 1)), true) := if_neg (Int.not_lt.2 h0)
  rw [e9, show (placeT (nx, l) me + 1).toNat = (placeT (nx, l) me).toNat + 1 by omega]
def sEnd23 : PSpec := ⟨[.d TabT, .d (.int .i64)], [⟨true, [.d TabT]⟩, ⟨false, [.d (.int .i64)]⟩], fun x => okT x.1, fun x => (((endT x.1 x.2.1).1, ()), (if (endT x.1 x.2.1).2 = true then 0 else 15, ()), ())⟩
theorem fEnd23 : FnOk Try.prog 88 := ⟨_, Try.func88, by decide, rfl⟩
theorem pEnd23 : PSound Try.prog 88 sEnd23 := by
  refine psound (T := (rbT tab)) (S := (spOf [(144, sChangeE.spec (lsOf []))])) (keep := k88) (by kernel_rfl) (rbT_ok tabOk) (spCons (pOk pChangeE fChangeE (by decide) lsNil) spNil) (by kernel_rfl) Try.func88 (by kernel_rfl) (by decide) fun xs hg hp => ?_
  obtain ⟨⟨nx, l⟩, me, ⟨⟩⟩ := xs
  change List Txn at l
  change Int at nx me
  have hp' : l.length ≤ 1000 ∧ ∀ x ∈ l, List.length x.2.2 ≤ 1000 := hp
  clear hg
  show vfun (rbT tab) _ k88 Try.f88 [.agg [.i .i64 nx, .sl TxnT l], .i .i64 me] [] _
  refine Ev.out ?_
  repeat' (first | ((with_reducible refine Ev.mk ?_); conv => whnf) | (with_reducible refine And.intro ?_ ?_) | (intro h))
  all_goals (try simp only [decide_eq_true_eq, decide_eq_false_iff_not, beq_iff_eq, bne_iff_ne, beq_eq_false_iff_ne, bne_eq_false_iff_eq, Int.toNat_natCast, ge_iff_le, gt_iff_lt, Bool.not_eq_true', Bool.not_eq_false', Int.not_lt, Int.not_le, ne_eq] at *)
  all_goals (try dsimp only [Ty.den, Ty.dflt, TxnT, sOwn23, sPlace23] at *)
  all_goals (try simp only [eq4, ne4, eq3, ne3, eq2, ne2, Prod.eta, List.length_cons, List.length_nil, List.length_append, Nat.zero_add] at *)
  all_goals (try simp (disch := omega) only [wrap64] at *)
  all_goals try first | exact leafDraw (by kernel_rfl) | exact Leaf.mk trivial | (refine Leaf.mk ?_; omega) | (refine Leaf.mk ?_; unfold maxLen; omega)
  · exact Leaf.mk hp
  · exact Leaf.mk (retB2 (u := ((endT (nx, l) me).1, 15)) (v := ((endT (nx, l) me).1, if (endT (nx, l) me).2 = true then 0 else 15)) (by have h9 : (endT (nx, l) me).2 = false := h; rw [h9]; rfl))
  · exact Leaf.mk (retB2 (u := ((endT (nx, l) me).1, 0)) (v := ((endT (nx, l) me).1, if (endT (nx, l) me).2 = true then 0 else 15)) (by have h9 : (endT (nx, l) me).2 = true := h; rw [h9]; rfl))
end Go.Proofs.Ytlfehkoklgmjjaa

set_option linter.unusedVariables false
set_option linter.unusedSimpArgs false
set_option maxRecDepth 8000
set_option maxHeartbeats 4000000
namespace Go.Proofs.Ytlfehkoklgmjjaa
open Go.Eng
theorem wrapu {n : Int} (h : 0 ≤ n ∧ n ≤ 1099511627776) : IntKind.u64.wrap n = n := by rw [wrapU64]; omega
end Go.Proofs.Ytlfehkoklgmjjaa

set_option linter.unusedVariables false
set_option linter.unusedSimpArgs false
set_option maxRecDepth 8000
set_option maxHeartbeats 4000000
namespace Go.Proofs.Ytlfehkoklgmjjaa
open Go.Eng
def putX (x : Txn) : List Int := putSmall x.1 ++ (putSmall x.2.1 ++ (putSmall x.2.2.length ++ x.2.2.flatMap putText))
def putT (t : Tabl) : List Int := putSmall t.1 ++ (putSmall t.2.length ++ t.2.flatMap putX)
structure TxOk (nx : Int) (x : Txn) : Prop where
  id : 0 ≤ x.1 ∧ x.1 ≤ 1099511627776
  st : 0 ≤ x.2.1 ∧ x.2.1 ≤ 1099511627776
  lt : x.1 < nx
  keys : ∀ k ∈ x.2.2, k.length ≤ 16
structure TabOk23 (t : Tabl) : Prop where
  next : 0 ≤ t.1 ∧ t.1 ≤ 1099511627776
  len : t.2.length ≤ 8
  all : ∀ x ∈ t.2, TxOk t.1 x
  ord : ordX t.2 = true
theorem check23_ok {t : Tabl} : check23 t = 0 ↔ TabOk23 t := by
  unfold check23
  have hin : ∀ n : Int, inB n = true ↔ 0 ≤ n ∧ n ≤ 1099511627776 := fun n => by simp [inB]
  constructor
  · intro h
    split at h
    · simp at h
    rename_i h1
    split at h
    · simp at h
    rename_i h2
    split at h
    · simp at h
    rename_i h3
    split at h
    · simp at h
    rename_i h4
    have h5 : t.2.any (badX t.1) = false := by simpa using fun hc => h1 (.inr hc)
    have h6 : t.2.any longX = false := by simpa using h4
    rw [List.any_eq_false] at h5 h6
    refine ⟨(hin _).1 (by simpa using fun hc => h1 (.inl hc)), by omega, fun x hx => ?_, by simpa using h3⟩
    have h7 := h5 x hx
    have h8 := h6 x hx
    simp only [badX, Bool.or_eq_true, not_or, Bool.not_eq_true', Bool.not_eq_false, decide_eq_true_eq] at h7
    simp only [longX, List.any_eq_true, decide_eq_true_eq, not_exists, not_and] at h8
    exact ⟨(hin _).1 h7.1.1, (hin _).1 h7.1.2, by omega, fun k hk => by have := h8 k hk; omega⟩
  · intro ok
    have h1 : ¬ (inB t.1 = false ∨ t.2.any (badX t.1) = true) := by
      rintro (hc | hc)
      · rw [(hin _).2 ok.next] at hc; cases hc
      · obtain ⟨x, hx, hb⟩ := List.any_eq_true.1 hc
        have := ok.all x hx
        rw [badX_4 ((hin _).2 this.id) ((hin _).2 this.st) this.lt] at hb
        cases hb
    have h4 : ¬ t.2.any longX = true := fun hc => by
      obtain ⟨x, hx, hb⟩ := List.any_eq_true.1 hc
      obtain ⟨k, hk, hb⟩ := List.any_eq_true.1 hb
      have := (ok.all x hx).keys k hk
      simp at hb; omega
    have h2 := ok.len
    rw [if_neg h1, if_neg (by omega), if_neg (by rw [ok.ord]; simp), if_neg h4]
theorem flat_lenX {α β : Type} {f : α → List β} {m : Nat} : ∀ {l : List α}, (∀ x ∈ l, (f x).length ≤ m) → (l.flatMap f).length ≤ l.length * m
  | [], _ => by simp
  | a :: l, h => by
    have h1 := h a List.mem_cons_self
    have h2 := flat_lenX (l := l) fun x hx => h x (List.mem_cons_of_mem _ hx)
    rw [List.flatMap_cons, List.length_append, List.length_cons, Nat.succ_mul]
    omega
theorem keys_len {ks : List (List UInt8)} (h : ∀ k ∈ ks, k.length ≤ 16) : (ks.flatMap putText).length ≤ ks.length * 34 := flat_lenX fun k hk => by
  have := putText_len k
  have := h k hk
  omega
theorem putX_len {nx : Int} {x : Txn} (h : TxOk nx x) (hk : x.2.2.length ≤ 1000) : (putX x).length ≤ 34027 := by
  have h1 := putSmall_len x.1
  have h2 := putSmall_len x.2.1
  have h3 := putSmall_len x.2.2.length
  have h4 := keys_len h.keys
  simp only [putX, List.length_append]
  omega
def putTF (t : Tabl) : List Int × Int := if check23 t = 0 then (putT t, 0) else ([], check23 t)
theorem fSmall1 : FnOk Try.prog 93 := ⟨_, Try.func93, by decide, rfl⟩
noncomputable def iSmall1 : Eng.Spec := inlb tab (spOf [(94, sPutSmall.spec (lsOf []))]) k93 Try.f93
theorem pSmall1 : SpecOk Try.prog 93 iSmall1 := inlb_ok tabOk (spCons (pOk pPutSmall fPutSmall (by decide) lsNil) spNil) (by kernel_rfl) Try.func93 (by kernel_rfl)
def sPut23 : PSpec := ⟨[.d TabT], [⟨false, [.d BT]⟩, ⟨false, [.d (.int .i64)]⟩], fun x => okT x.1, fun x => (((putTF x.1).1, ()), ((putTF x.1).2, ()), ())⟩
theorem retPT {u v : List Int × Int} (h : u = v) : (some ((u.1, ()), (u.2, ()), ()) : Option ((List Int × Unit) × (Int × Unit) × Unit)) = some ((v.1, ()), (v.2, ()), ()) := by rw [h]
theorem fPut23 : FnOk Try.prog 35 := ⟨_, Try.func35, by decide, rfl⟩
theorem pPut23 : PSound Try.prog 35 sPut23 := by
  refine psound (T := tab) (S := (spOf [(40, sCheck23.spec (lsOf [])), (93, iSmall1), (95, sPutText.spec (lsOf []))])) (keep := k35) (by kernel_rfl) tabOk (spCons (pOk pCheck23 fCheck23 (by decide) lsNil) (spCons (.inl ⟨pSmall1, fSmall1⟩) (spCons (pOk pPutText fPutText (by decide) lsNil) spNil))) (by kernel_rfl) Try.func35 (by kernel_rfl) (by decide) fun xs hg hp => ?_
  obtain ⟨⟨nx, l⟩, ⟨⟩⟩ := xs
  change List Txn at l
  change Int at nx
  change l.length ≤ 1000 ∧ ∀ x ∈ l, List.length x.2.2 ≤ 1000 at hp
  obtain ⟨-, hk⟩ := hp
  clear hg
  show vfun tab _ k35 Try.f35 [.agg [.i .i64 nx, .sl TxnT l]] [] _
  refine Ev.out ?_
  repeat' (first | ((with_reducible refine Ev.mk ?_); conv => whnf) | (with_reducible refine And.intro ?_ ?_) | (intro h))
  all_goals (try simp only [decide_eq_true_eq, decide_eq_false_iff_not, beq_iff_eq, bne_iff_ne, beq_eq_false_iff_ne, bne_eq_false_iff_eq, Int.toNat_natCast, ge_iff_le, gt_iff_lt, Bool.not_eq_true', Bool.not_eq_false', Int.not_lt, Int.not_le, ne_eq] at *)
  all_goals (try dsimp only [Ty.den, Ty.dflt, TxnT, sCheck23, sPutText, sPutSmall] at *)
  all_goals (try simp only [eq4, ne4, eq3, ne3, eq2, ne2, Prod.eta, List.length_cons, List.length_nil, List.length_append, Nat.zero_add] at *)
  all_goals (try simp (disch := omega) only [wrap64] at *)
  all_goals try first | exact leafDraw (by kernel_rfl) | exact Leaf.mk trivial | (refine Leaf.mk ?_; omega) | (refine Leaf.mk ?_; unfold maxLen; omega)
  · exact Leaf.mk (retPT (u := ([], check23 (nx, l))) (if_neg h).symm)
  have ok := check23_ok.1 h
  have h' := h
  have hnx := ok.next
  have hl8 := ok.len
  dsimp only at hnx hl8
  have hw1 : IntKind.u64.wrap nx = nx := wrapu hnx
  have hw2 : IntKind.u64.wrap (l.length : Int) = (l.length : Int) := wrapu (by omega)
  have hs := fun n => putSmall_len n
  refine LoopVC.weak [(.cell 1 0, .nil 5 (.int .u8))] (fun i : Nat => [(7, .i .i64 i)]) (fun i => [(58, .arr 5 (.int .u8) (([nx, (l.length : Int)].take i).flatMap putSmall))]) (fun i => i ≤ 2) (fun i => 2 - i) 0 (Ev.mk ?_)
  (conv => whnf)
  refine ⟨Leaf.mk ?_, Leaf.mk ?_, ?_⟩
  · rfl
  · omega
  intro i hi
  have hfl : ∀ i, (([nx, (l.length : Int)].take i).flatMap putSmall).length ≤ 18 := fun i => by
    have h1 := hs nx
    have h2 := hs l.length
    match i with
    | 0 => simp
    | 1 => simp; omega
    | n + 2 => simp; omega
  repeat' (first | ((with_reducible refine Ev.mk ?_); conv => whnf) | (with_reducible refine And.intro ?_ ?_) | (intro h))
  all_goals (try simp only [decide_eq_true_eq, decide_eq_false_iff_not, beq_iff_eq, bne_iff_ne, beq_eq_false_iff_ne, bne_eq_false_iff_eq, Int.toNat_natCast, ge_iff_le, gt_iff_lt, Bool.not_eq_true', Bool.not_eq_false', Int.not_lt, Int.not_le, ne_eq] at *)
  all_goals (try dsimp only [Ty.den, Ty.dflt, TxnT, sPutSmall] at *)
  all_goals (try simp only [eq4, ne4, eq3, ne3, eq2, ne2, Prod.eta, List.length_cons, List.length_nil, List.length_append, Nat.zero_add] at *)
  all_goals (try simp (disch := omega) only [wrap64] at *)
  all_goals try first | exact leafDraw (by kernel_rfl) | exact Leaf.mk trivial | (refine Leaf.mk ?_; omega) | (refine Leaf.mk ?_; unfold maxLen; omega)
  all_goals try
    have hst : ([nx, (l.length : Int)].take (i + 1)).flatMap putSmall = ([nx, (l.length : Int)].take i).flatMap putSmall ++ putSmall (IntKind.u64.wrap ([nx, (l.length : Int)].getD i 0)) := by
      obtain rfl | rfl : i = 0 ∨ i = 1 := by omega
      · simp [hw1]
      · simp [hw2]
    have h9 := hfl (i + 1)
    rw [hst, List.length_append] at h9
    first
    | (refine Leaf.mk ?_; omega)
    | (refine Leaf.mk ?_; unfold maxLen; omega)
    | (refine Leaf.mk (Exists.intro (i + 1) ⟨?_, by omega, by omega⟩)
       rw [hst]; rfl)
  obtain rfl : i = 2 := by omega
  refine LoopVC.weak [] (fun j : Nat => [(28, .i .i64 j)]) (fun j => [(1, .arr 5 (.int .u8) (putSmall nx ++ (putSmall l.length ++ (l.take j).flatMap putX)))]) (fun j => j ≤ l.length) (fun j => l.length - j) 0 (Ev.mk ?_)
  (conv => whnf)
  refine ⟨Leaf.mk ?_, Leaf.mk ?_, ?_⟩
  · simp only [List.take_zero, List.flatMap_nil, List.append_nil, List.take_succ_cons, List.take_nil, List.flatMap_cons]; rfl
  · omega
  intro j hj
  have hxa : ∀ j, j < l.length → TxOk nx (l.getD j txn0) ∧ (l.getD j txn0).2.2.length ≤ 1000 := fun j hj => ⟨ok.all _ (getD_mem txn0 hj), hk _ (getD_mem txn0 hj)⟩
  repeat' (first | ((with_reducible refine Ev.mk ?_); conv => whnf) | (with_reducible refine And.intro ?_ ?_) | (intro h))
  all_goals (try simp only [decide_eq_true_eq, decide_eq_false_iff_not, beq_iff_eq, bne_iff_ne, beq_eq_false_iff_ne, bne_eq_false_iff_eq, Int.toNat_natCast, ge_iff_le, gt_iff_lt, Bool.not_eq_true', Bool.not_eq_false', Int.not_lt, Int.not_le, ne_eq] at *)
  all_goals (try dsimp only [Ty.den, Ty.dflt, TxnT, sPutSmall] at *)
  all_goals (try simp only [eq4, ne4, eq3, ne3, eq2, ne2, Prod.eta, List.length_cons, List.length_nil, List.length_append, Nat.zero_add] at *)
  all_goals (try simp (disch := omega) only [wrap64] at *)
  all_goals try first | exact leafDraw (by kernel_rfl) | exact Leaf.mk trivial | (refine Leaf.mk ?_; omega) | (refine Leaf.mk ?_; unfold maxLen; omega)
  rotate_left
  · refine Leaf.mk (retPT (u := (putSmall nx ++ (putSmall l.length ++ (l.take j).flatMap putX), 0)) (v := putTF (nx, l)) ?_)
    rw [putTF, if_pos h', List.take_of_length_le (by omega)]; rfl
  obtain ⟨hxo, hxk⟩ := hxa j (by omega)
  have hid := hxo.id
  have hst := hxo.st
  have hkl := hxo.keys
  have hw3 : IntKind.u64.wrap (l.getD j (0, 0, [])).1 = (l.getD j (0, 0, [])).1 := wrapu hid
  have hw4 : IntKind.u64.wrap (l.getD j (0, 0, [])).2.1 = (l.getD j (0, 0, [])).2.1 := wrapu hst
  dsimp only [txn0] at hxk
  have hw5 : IntKind.u64.wrap ((l.getD j (0, 0, [])).2.2.length : Int) = ((l.getD j (0, 0, [])).2.2.length : Int) := wrapu (by omega)
  have hB : (putSmall nx ++ (putSmall l.length ++ (l.take j).flatMap putX)).length ≤ 300000 := by
    have h1 := hs nx
    have h2 := hs l.length
    have h3 := flat_lenX (f := putX) (m := 34027) (l := l.take j) fun x hx => putX_len (ok.all x (List.mem_of_mem_take hx)) (hk x (List.mem_of_mem_take hx))
    have h4 := List.length_take_le' j l
    simp only [List.length_append]
    omega
  have hat : (l.take (j + 1)).flatMap putX = (l.take j).flatMap putX ++ putX (l.getD j (0, 0, [])) := flatMap_at txn0 (by omega)
  clear hid hst hi
  generalize hBe : putSmall nx ++ (putSmall l.length ++ (l.take j).flatMap putX) = B at *
  generalize hxe : l.getD j (0, 0, []) = x at *
  obtain ⟨id, st, ks⟩ := x
  dsimp only at *
  refine LoopVC.weak [] (fun i : Nat => [(7, .i .i64 i)]) (fun i => [(75, .arr 5 (.int .u8) (B ++ ([id, st, (ks.length : Int)].take i).flatMap putSmall))]) (fun i => i ≤ 3) (fun i => 3 - i) 0 (Ev.mk ?_)
  (conv => whnf)
  refine ⟨Leaf.mk ?_, Leaf.mk ?_, ?_⟩
  · simp only [List.take_zero, List.flatMap_nil, List.append_nil]; rfl
  · omega
  intro i hi
  have hfl : ∀ i, (([id, st, (ks.length : Int)].take i).flatMap putSmall).length ≤ 27 := fun i => by
    have h1 := hs id
    have h2 := hs st
    have h3 := hs ks.length
    match i with
    | 0 => simp
    | 1 => simp; omega
    | 2 => simp; omega
    | n + 3 => simp; omega
  repeat' (first | ((with_reducible refine Ev.mk ?_); conv => whnf) | (with_reducible refine And.intro ?_ ?_) | (intro h))
  all_goals (try simp only [decide_eq_true_eq, decide_eq_false_iff_not, beq_iff_eq, bne_iff_ne, beq_eq_false_iff_ne, bne_eq_false_iff_eq, Int.toNat_natCast, ge_iff_le, gt_iff_lt, Bool.not_eq_true', Bool.not_eq_false', Int.not_lt, Int.not_le, ne_eq] at *)
  all_goals (try dsimp only [Ty.den, Ty.dflt, TxnT, sPutSmall] at *)
  all_goals (try simp only [eq4, ne4, eq3, ne3, eq2, ne2, Prod.eta, List.length_cons, List.length_nil, List.length_append, Nat.zero_add] at *)
  all_goals (try simp (disch := omega) only [wrap64] at *)
  all_goals try first | exact leafDraw (by kernel_rfl) | exact Leaf.mk trivial | (refine Leaf.mk ?_; omega) | (refine Leaf.mk ?_; unfold maxLen; omega)
  all_goals try
    have hst : ([id, st, (ks.length : Int)].take (i + 1)).flatMap putSmall = ([id, st, (ks.length : Int)].take i).flatMap putSmall ++ putSmall (IntKind.u64.wrap ([id, st, (ks.length : Int)].getD i 0)) := by
      obtain rfl | rfl | rfl : i = 0 ∨ i = 1 ∨ i = 2 := by omega
      · simp [hw3]
      · simp [hw4]
      · simp [hw5]
    have h9 := hfl (i + 1)
    rw [hst, List.length_append] at h9
    first
    | (refine Leaf.mk ?_; omega)
    | (refine Leaf.mk ?_; unfold maxLen; omega)
    | (refine Leaf.mk (Exists.intro (i + 1) ⟨?_, by omega, by omega⟩)
       rw [hst, ← List.append_assoc]; rfl)
  obtain rfl : i = 3 := by omega
  clear hfl
  have hks : ks.length ≤ 1000 := by omega
  have hC : (B ++ (putSmall id ++ (putSmall st ++ putSmall ks.length))).length ≤ 300027 := by
    have h1 := hs id
    have h2 := hs st
    have h3 := hs ks.length
    simp only [List.length_append]; omega
  have hX : B ++ putX (id, st, ks) = B ++ (putSmall id ++ (putSmall st ++ putSmall ks.length)) ++ ks.flatMap putText := by simp only [putX, List.append_assoc]
  have hN : putSmall nx ++ (putSmall l.length ++ (l.take (j + 1)).flatMap putX) = B ++ putX (id, st, ks) := by rw [hat, ← hBe]; simp only [List.append_assoc]
  have h3 : B ++ (List.take 3 [id, st, (ks.length : Int)]).flatMap putSmall = B ++ (putSmall id ++ (putSmall st ++ putSmall ks.length)) ++ (ks.take 0).flatMap putText := by simp
  rw [h3]
  clear h3
  generalize B ++ (putSmall id ++ (putSmall st ++ putSmall ks.length)) = D at *
  refine LoopVC.weak [] (fun k : Nat => [(45, .i .i64 k)]) (fun k => [(1, .arr 5 (.int .u8) (D ++ (ks.take k).flatMap putText))]) (fun k => k ≤ ks.length) (fun k => ks.length - k) 0 (Ev.mk ?_)
  (conv => whnf)
  refine ⟨Leaf.mk ?_, Leaf.mk ?_, ?_⟩
  · rfl
  · omega
  intro k hkk
  have hfl := keys_len (ks := ks.take k) fun x hx => hkl x (List.mem_of_mem_take hx)
  have hlt := List.length_take_le' k ks
  repeat' (first | ((with_reducible refine Ev.mk ?_); conv => whnf) | (with_reducible refine And.intro ?_ ?_) | (intro h))
  all_goals (try simp only [decide_eq_true_eq, decide_eq_false_iff_not, beq_iff_eq, bne_iff_ne, beq_eq_false_iff_ne, bne_eq_false_iff_eq, Int.toNat_natCast, ge_iff_le, gt_iff_lt, Bool.not_eq_true', Bool.not_eq_false', Int.not_lt, Int.not_le, ne_eq] at *)
  all_goals (try dsimp only [Ty.den, Ty.dflt, TxnT, sPutText] at *)
  all_goals (try simp only [eq4, ne4, eq3, ne3, eq2, ne2, Prod.eta, List.length_cons, List.length_nil, List.length_append, Nat.zero_add] at *)
  all_goals (try simp (disch := omega) only [wrap64] at *)
  all_goals try first | exact leafDraw (by kernel_rfl) | exact Leaf.mk trivial | (refine Leaf.mk ?_; omega) | (refine Leaf.mk ?_; unfold maxLen; omega)
  all_goals try
    have hk1 : (ks.getD k []).length ≤ 16 := hkl _ (getD_mem [] (by omega))
    have hk2 := putText_len (ks.getD k [])
    have hk3 : (ks.take (k + 1)).flatMap putText = (ks.take k).flatMap putText ++ putText (ks.getD k []) := flatMap_at [] (by omega)
    first
    | (refine Leaf.mk ?_; omega)
    | (refine Leaf.mk ?_; unfold maxLen; omega)
    | (refine Leaf.mk (Exists.intro (k + 1) ⟨?_, by omega, by omega⟩)
       rw [hk3, ← List.append_assoc]; rfl)
  refine Leaf.mk (Exists.intro (j + 1) ⟨?_, by omega, by omega⟩)
  rw [hN, hX, List.take_of_length_le (by omega)]; rfl
end Go.Proofs.Ytlfehkoklgmjjaa
