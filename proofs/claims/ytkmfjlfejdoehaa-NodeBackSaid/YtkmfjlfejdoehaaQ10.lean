import Derived.Test.YtkmfjlfejdoehaaQ9
import Derived.Test.YtkmfjlfejdoehaaEng5
/- Texts, one behind the other. -/
set_option linter.unusedVariables false
set_option linter.unusedSimpArgs false
set_option maxRecDepth 8000
set_option maxHeartbeats 4000000
namespace Go.Proofs.Ytkmfjlfejdoehaa
open Go.Eng
def RiseK (l : List Stk) : Prop := l.Pairwise fun a b => a.1 < b.1
theorem riseK_at {l : List Stk} (h : RiseK l) {a b : Nat} (hab : a < b) (hb : b < l.length) : (l.getD a stk0).1 < (l.getD b stk0).1 := by
  have e : ∀ i, (h : i < l.length) → l.getD i stk0 = l[i] := fun i h => by rw [List.getD_eq_getElem?_getD, List.getElem?_eq_getElem h]; rfl
  rw [e a (by omega), e b hb]
  exact (List.pairwise_iff_getElem.1 h) _ _ _ _ hab
theorem lastL_iff {k : List UInt8} {l : List Stk} (h : RiseK l) : ∀ n, n ≤ l.length → ∀ a, a < n → ((l.getD a stk0).1 < k ↔ a < lastL k l n)
  | 0, _, a, ha => by omega
  | n + 1, hn, a, ha => by
    rw [lastL]
    split
    · rename_i hs
      have hs := sless_iff.1 hs
      by_cases hx : a = n
      · subst hx; exact ⟨fun _ => by omega, fun _ => hs⟩
      · exact ⟨fun _ => by omega, fun _ => slt_trans (riseK_at h (show a < n by omega) (by omega)) hs⟩
    · rename_i hs
      have hle := lastL_le k l n
      by_cases hx : a = n
      · subst hx
        exact ⟨fun hc => absurd (sless_iff.2 hc) hs, fun hc => by omega⟩
      · exact lastL_iff h n (by omega) a (by omega)
theorem idxF_neg {α : Type} {p : α → Bool} : ∀ (xs : List α) (i : Nat), idxF p xs i < 0 ↔ ∀ x ∈ xs, p x = false
  | [], i => by simp [idxF]
  | x :: r, i => by
    rw [idxF]
    split
    · rename_i h
      exact ⟨fun hc => by omega, fun hc => by have := hc x List.mem_cons_self; rw [h] at this; cases this⟩
    · rename_i h
      rw [idxF_neg r (i + 1)]
      simp only [List.mem_cons, forall_eq_or_imp]
      exact ⟨fun hc => ⟨by simpa using h, hc⟩, fun hc => hc.2⟩
theorem plL_neg {l : List Stk} {k : List UInt8} : plL l k < 0 ↔ ∀ a, a < l.length → ¬ (l.getD a stk0).1 = k := by
  rw [plL, idxF_neg]
  constructor
  · intro h a ha hc
    have := h _ (getD_mem stk0 ha)
    rw [keyIs, hc] at this
    simp at this
  · intro h x hx
    obtain ⟨a, ha, rfl⟩ := List.mem_iff_getElem.1 hx
    have := h a ha
    rw [List.getD_eq_getElem?_getD, List.getElem?_eq_getElem ha] at this
    simpa [keyIs] using this
theorem withF_rise {X : List Stk} {k : List UInt8} (h : RiseK X) : RiseK (withF X k) ∧ (withF X k).length ≤ X.length + 1 ∧ ∀ s ∈ withF X k, s ∈ X ∨ s = (k, []) := by
  rw [withF]
  split
  · rename_i hp
    have hle := lastL_le k X X.length
    have hno := plL_neg.1 hp
    have hiff := fun a (ha : a < X.length) => lastL_iff (k := k) h X.length (Nat.le_refl _) a ha
    generalize lastL k X X.length = q at *
    have g : ∀ a, (ha : a < X.length) → X.getD a stk0 = X[a] := fun a ha => by rw [List.getD_eq_getElem?_getD, List.getElem?_eq_getElem ha]; rfl
    have hsplit : (X.take q ++ X.drop q).Pairwise fun a b : Stk => a.1 < b.1 := by rw [List.take_append_drop]; exact h
    rw [List.pairwise_append] at hsplit
    have hlo : ∀ s ∈ X.take q, s.1 < k := fun s hs => by
      obtain ⟨a, ha, rfl⟩ := List.mem_iff_getElem.1 hs
      rw [List.length_take] at ha
      rw [List.getElem_take, ← g a (by omega)]
      exact (hiff a (by omega)).2 (by omega)
    have hhi : ∀ s ∈ X.drop q, k < s.1 := fun s hs => by
      obtain ⟨a, ha, rfl⟩ := List.mem_iff_getElem.1 hs
      rw [List.length_drop] at ha
      rw [List.getElem_drop, ← g (q + a) (by omega)]
      have h1 : ¬ (X.getD (q + a) stk0).1 < k := fun hc => by have := (hiff (q + a) (by omega)).1 hc; omega
      have h2 := hno (q + a) (by omega)
      rcases sle_cases (List.not_lt.1 h1) with h3 | h3
      · exact h3
      · exact absurd h3.symm h2
    refine ⟨?_, by simp only [List.length_append, List.length_cons, List.length_take, List.length_drop]; omega, fun s hs => ?_⟩
    · rw [RiseK, List.pairwise_append, List.pairwise_cons]
      refine ⟨hsplit.1, ⟨fun b hb => hhi b hb, hsplit.2.1⟩, fun a ha b hb => ?_⟩
      rcases List.mem_cons.1 hb with rfl | hb
      · exact hlo a ha
      · exact hsplit.2.2 a ha b hb
    · rcases List.mem_append.1 hs with hs | hs
      · exact .inl (List.mem_of_mem_take hs)
      · rcases List.mem_cons.1 hs with hs | hs
        · exact .inr hs
        · exact .inl (List.mem_of_mem_drop hs)
  · exact ⟨h, Nat.le_succ _, fun s hs => .inl hs⟩
structure XOkk (X : List Stk) (n : Nat) : Prop where
  rise : RiseK X
  len : X.length ≤ n
  all : ∀ s ∈ X, s.2.length ≤ 1000
theorem XOkk.next {X : List Stk} {n : Nat} (h : XOkk X n) (k : List UInt8) : XOkk (withF X k) (n + 1) := by
  obtain ⟨h1, h2, h3⟩ := withF_rise (k := k) h.rise
  refine ⟨h1, by have := h.len; omega, fun s hs => ?_⟩
  rcases h3 s hs with h4 | rfl
  · exact h.all s h4
  · exact Nat.zero_le _
end Go.Proofs.Ytkmfjlfejdoehaa

set_option linter.unusedVariables false
set_option linter.unusedSimpArgs false
set_option maxRecDepth 8000
set_option maxHeartbeats 4000000
namespace Go.Proofs.Ytkmfjlfejdoehaa
open Go.Eng
def sumN (l : List Stk) : Nat := (l.flatMap one).length
theorem sumN_cons (s : Stk) (l : List Stk) : sumN (s :: l) = (one s).length + sumN l := by simp [sumN]
theorem sumN_le (l : List Stk) : sumN l ≤ l.length * 604 := flat_lenS one 604 one_len l
theorem ret3 {u v : List Stk × List Stk × List UInt8} (h : u = v) : (some ((u.1, ()), (u.2.1, ()), (u.2.2, ()), ()) : Option ((List Stk × Unit) × (List Stk × Unit) × (List UInt8 × Unit) × Unit)) = some ((v.1, ()), (v.2.1, ()), (v.2.2, ()), ()) := by rw [h]
theorem fEqF : FnOk Try.prog 74 := ⟨_, Try.func74, by decide, rfl⟩
noncomputable def iEqF : Eng.Spec := inl tab (spOf [(75, sSSame.spec (lsOf []))]) k74 Try.f74
theorem pEqF : SpecOk Try.prog 74 iEqF := inl_ok tabOk (spCons (pOk pSSame fSSame (by decide) lsNil) spNil) (by kernel_rfl) Try.func74 (by kernel_rfl)
def sLSame : PSpec := ⟨[.st SsT, .st SsT], [⟨false, [.d .bool]⟩], fun x => List.length x.1 ≤ 100000, fun x => ((decide ((x.1 : List Stk) = x.2.1), ()), ())⟩
theorem fLSame : FnOk Try.prog 44 := ⟨_, Try.func44, by decide, rfl⟩
theorem pLSame : PSound Try.prog 44 sLSame := by
  refine psound (T := tab) (S := (spOf [(74, iEqF), (75, sSSame.spec (lsOf []))])) (keep := k44) (by kernel_rfl) tabOk (spCons (.inl ⟨pEqF, fEqF⟩) (spCons (pOk pSSame fSSame (by decide) lsNil) spNil)) (by kernel_rfl) Try.func44 (by kernel_rfl) (by decide) fun xs hg hp => ?_
  obtain ⟨a, b, ⟨⟩⟩ := xs
  change List Stk at a b
  change a.length ≤ 100000 at hp
  clear hg
  show vfun tab _ k44 Try.f44 [.agg [.sl StT a], .agg [.sl StT b]] [] _
  refine Ev.out ?_
  repeat' (first | ((with_reducible refine Ev.mk ?_); conv => whnf) | (with_reducible refine And.intro ?_ ?_) | (intro h))
  all_goals (try simp only [decide_eq_true_eq, decide_eq_false_iff_not, beq_iff_eq, bne_iff_ne, beq_eq_false_iff_ne, bne_eq_false_iff_eq, Int.toNat_natCast, ge_iff_le, gt_iff_lt, Bool.not_eq_true', Bool.not_eq_false', Int.not_lt, Int.not_le, ne_eq] at *)
  all_goals (try dsimp only [Ty.den, Ty.dflt, StT] at *)
  all_goals (try simp only [eq4, ne4, eq3, ne3, eq2, ne2, Prod.eta, List.length_cons, List.length_nil, List.length_append, Nat.zero_add] at *)
  all_goals (try simp (disch := omega) only [wrap64] at *)
  all_goals try first | exact leafDraw (by kernel_rfl) | exact Leaf.mk trivial | (refine Leaf.mk ?_; omega) | (refine Leaf.mk ?_; unfold maxLen; omega)
  · refine Leaf.mk (ret1 (show false = decide (a = b) from ?_))
    rw [eq_comm, decide_eq_false_iff_not]; intro hc; exact h (by rw [hc])
  refine LoopVC.on (fun i : Nat => [(17, .i .i64 i)]) (fun _ => []) (fun i => i ≤ a.length ∧ a.take i = b.take i) (fun i => a.length - i) 0 rfl ⟨by omega, by simp⟩ ?_
  intro i ⟨hi, he⟩
  repeat' (first | ((with_reducible refine Ev.mk ?_); conv => whnf) | (with_reducible refine And.intro ?_ ?_) | (intro h))
  all_goals (try simp only [decide_eq_true_eq, decide_eq_false_iff_not, beq_iff_eq, bne_iff_ne, beq_eq_false_iff_ne, bne_eq_false_iff_eq, Int.toNat_natCast, ge_iff_le, gt_iff_lt, Bool.not_eq_true', Bool.not_eq_false', Int.not_lt, Int.not_le, ne_eq] at *)
  all_goals (try dsimp only [Ty.den, Ty.dflt, StT] at *)
  all_goals (try simp only [eq4, ne4, eq3, ne3, eq2, ne2, Prod.eta, List.length_cons, List.length_nil, List.length_append, Nat.zero_add] at *)
  all_goals (try simp (disch := omega) only [wrap64] at *)
  all_goals try first | exact leafDraw (by kernel_rfl) | exact Leaf.mk trivial | (refine Leaf.mk ?_; omega) | (refine Leaf.mk ?_; unfold maxLen; omega)
  all_goals first
    | exact Leaf.mk (ret1 (show false = decide (a = b) by rw [eq_comm, decide_eq_false_iff_not]; exact same_not stk0 (of_decide_eq_false (show decide (a.getD i stk0 = b.getD i stk0) = false from ‹_›))))
    | exact Leaf.mk ⟨i + 1, rfl, ⟨by omega, same_step stk0 (by omega) he (by omega) (of_decide_eq_true (show decide (a.getD i stk0 = b.getD i stk0) = true from ‹_›))⟩, by omega⟩
    | exact Leaf.mk (ret1 (show true = decide (a = b) by rw [eq_comm, decide_eq_true_eq]; exact same_end (by omega) he (by omega)))
    | skip
end Go.Proofs.Ytkmfjlfejdoehaa

set_option linter.unusedVariables false
set_option linter.unusedSimpArgs false
set_option maxRecDepth 8000
set_option maxHeartbeats 4000000
namespace Go.Proofs.Ytkmfjlfejdoehaa
open Go.Eng
theorem putR_okk {s : Stk} (h : check s = 0) : (putR11 s).1 = putS s := by unfold putR11; rw [if_pos h]
theorem one_okk {s : Stk} (h : check s = 0) : one s = putSmall ((putS s).length : Nat) ++ putS s := by rw [one, putR_okk h]
theorem rdSmall_one {s : Stk} (h : check s = 0) (r : List Int) : rdSmall (one s ++ r) 0 = ((((putS s).length : Nat) : Int), putS s ++ r, 0) := by
  have := putS_len h
  rw [one_okk h, List.append_assoc]
  exact rdSmall_put (by omega) (by omega) _
def rdL : Nat → List Int → List Stk
  | 0, _ => []
  | n + 1, b => (getS ((rdSmall b 0).2.1.take (rdSmall b 0).1.toNat)).1 :: rdL n ((rdSmall b 0).2.1.drop (rdSmall b 0).1.toNat)
theorem rdL_put : ∀ (l : List Stk), (∀ s ∈ l, check s = 0) → rdL l.length (l.flatMap one) = l
  | [], _ => rfl
  | s :: r, h => by
    have hs := h s List.mem_cons_self
    rw [List.length_cons, rdL, List.flatMap_cons, rdSmall_one hs]
    dsimp only
    rw [Int.toNat_natCast, List.take_left' rfl, List.drop_left' rfl, getS_put hs rfl, rdL_put r fun x hx => h x (List.mem_cons_of_mem _ hx)]
def readL (b : List Int) : List Stk := rdL (min (rdSmall b 0).1.toNat 1016) (rdSmall b 0).2.1
def getL (b : List Int) : List Stk × Int := if checkL (readL b) = 0 ∧ layF (readL b) = b then (readL b, 0) else ([], 4)
theorem one_pos (s : Stk) : 1 ≤ (one s).length := by
  have := (putSmall_len ((putR11 s).1.length : Nat)).1
  rw [one, List.length_append]; omega
theorem len_sum : ∀ (l : List Stk), l.length ≤ sumN l
  | [] => Nat.le_refl _
  | s :: r => by
    have := len_sum r
    have := one_pos s
    rw [sumN_cons, List.length_cons]; omega
structure LeafOk (l : List Stk) : Prop where
  all : ∀ s ∈ l, check s = 0
  len : l.length ≤ 1016
  size : sizeF l ≤ 1016
theorem leafOk {l : List Stk} (h : checkL l = 0) : LeafOk l := by
  have h1 : mayL l = 0 ∧ sizeF l ≤ 1016 := by
    unfold checkL at h
    split at h
    · rename_i h1
      split at h
      · omega
      · exact ⟨h1, by omega⟩
    · rename_i h1; exact absurd h h1
  have h2 := len_sum l
  have h3 : sumN l ≤ sizeF l := by rw [sizeF, layF, List.length_append]; exact Nat.le_add_left _ _
  exact ⟨(mayL_zero.1 h1.1).1, by omega, h1.2⟩
theorem rd_lay {l : List Stk} (h : checkL l = 0) : rdSmall (layF l) 0 = (((l.length : Nat) : Int), l.flatMap one, 0) := by
  have := (leafOk h).len
  exact rdSmall_put (by omega) (by omega) _
theorem getL_put {l : List Stk} {b : List Int} (h : checkL l = 0) (hb : layF l = b) : getL b = (l, 0) := by
  subst hb
  have ok := leafOk h
  have hr : readL (layF l) = l := by
    rw [readL, rd_lay h]
    dsimp only
    rw [Int.toNat_natCast, Nat.min_eq_left ok.len, rdL_put l ok.all]
  unfold getL
  rw [hr, if_pos ⟨h, rfl⟩]
theorem getL_not {b : List Int} (h : ∀ l, checkL l = 0 → layF l ≠ b) : getL b = ([], 4) := by
  unfold getL
  rw [if_neg (fun hc => h _ hc.1 hc.2)]
theorem isB_one (s : Stk) : isB (one s) := by
  refine isB_append (isB_small _) ?_
  unfold putR11
  split
  · exact isB_S s
  · exact fun x hx => by simp at hx
theorem isB_layF (l : List Stk) : isB (layF l) := isB_append (isB_small _) fun x hx => by
  obtain ⟨s, _, hs⟩ := List.mem_flatMap.1 hx
  exact isB_one s x hs
def putL (l : List Stk) : List Int × Int := if checkL l = 0 then (layF l, 0) else ([], checkL l)
theorem retP {u v : List Int × Int} (h : u = v) : (some ((u.1, ()), (u.2, ()), ()) : Option ((List Int × Unit) × (Int × Unit) × Unit)) = some ((v.1, ()), (v.2, ()), ()) := by rw [h]
def sLPut : PSpec := ⟨[.st SsT], [⟨false, [.d BT]⟩, ⟨false, [.d (.int .i64)]⟩], fun x => List.length x.1 ≤ 100000, fun x => (((putL x.1).1, ()), ((putL x.1).2, ()), ())⟩
theorem fLPut : FnOk Try.prog 50 := ⟨_, Try.func50, by decide, rfl⟩
theorem pLPut : PSound Try.prog 50 sLPut := by
  refine psound (T := tab) (S := (spOf [(82, sLCheck.spec (lsOf [])), (84, sLay14.spec (lsOf []))])) (keep := k50) (by kernel_rfl) tabOk (spCons (pOk pLCheck fLCheck (by decide) lsNil) (spCons (pOk pLay14 fLay14 (by decide) lsNil) spNil)) (by kernel_rfl) Try.func50 (by kernel_rfl) (by decide) fun xs hg hp => ?_
  obtain ⟨l, ⟨⟩⟩ := xs
  change List Stk at l
  change l.length ≤ 100000 at hp
  clear hg
  show vfun tab _ k50 Try.f50 [.agg [.sl StT l]] [] _
  refine Ev.out ?_
  repeat' (first | ((with_reducible refine Ev.mk ?_); conv => whnf) | (with_reducible refine And.intro ?_ ?_) | (intro h))
  all_goals (try simp only [decide_eq_true_eq, decide_eq_false_iff_not, beq_iff_eq, bne_iff_ne, beq_eq_false_iff_ne, bne_eq_false_iff_eq, Int.toNat_natCast, ge_iff_le, gt_iff_lt, Bool.not_eq_true', Bool.not_eq_false', Int.not_lt, Int.not_le, ne_eq] at *)
  all_goals (try dsimp only [Ty.den, Ty.dflt, StT] at *)
  all_goals (try simp only [eq4, ne4, eq3, ne3, eq2, ne2, Prod.eta, List.length_cons, List.length_nil, List.length_append, Nat.zero_add] at *)
  all_goals (try simp (disch := omega) only [wrap64] at *)
  all_goals try first | exact leafDraw (by kernel_rfl) | exact Leaf.mk trivial | (refine Leaf.mk ?_; omega) | (refine Leaf.mk ?_; unfold maxLen; omega)
  all_goals try exact Leaf.mk (show l.length ≤ 100000 by omega)
  all_goals first
    | (refine Leaf.mk (retP (u := ([], checkL l)) (v := putL l) ?_)
       rw [putL, if_neg (show ¬ checkL l = 0 from ‹_›)])
    | (refine Leaf.mk (retP (u := (layF l, 0)) (v := putL l) ?_)
       rw [putL, if_pos (show checkL l = 0 from ‹_›)])
def sLGet : PSpec := ⟨[.d BT], [⟨true, [.d SsT]⟩, ⟨false, [.d (.int .i64)]⟩], fun x => List.length (α := Int) x.1 ≤ 50000, fun x => (((getL x.1).1, ()), ((getL x.1).2, ()), ())⟩
theorem retGl {u v : List Stk × Int} (h : u = v) : (some ((u.1, ()), (u.2, ()), ()) : Option ((List Stk × Unit) × (Int × Unit) × Unit)) = some ((v.1, ()), (v.2, ()), ()) := by rw [h]
theorem putL_zero {l : List Stk} (h : (putL l).2 = 0) : checkL l = 0 ∧ (putL l).1 = layF l := by
  unfold putL at h ⊢
  split at h
  · rename_i hc; rw [if_pos hc]; exact ⟨hc, rfl⟩
  · rename_i hc; exact absurd h hc
theorem putL_not {l : List Stk} (h : ¬ (putL l).2 = 0) : ¬ checkL l = 0 := fun hc => h (by unfold putL; rw [if_pos hc])
theorem rdSmall_pos {b : List Int} (hx : ∀ x ∈ b, Eng.Good (.int .u8) x) (e : Int) : 0 ≤ (rdSmall b e).1 := by
  have := (getSmall_bd hx).2
  unfold rdSmall
  repeat' split
  all_goals first | exact Int.le_refl 0 | exact this
theorem round_l {l : List Stk} {i : Nat} (h : checkL l = 0) (hi : i < l.length) : rdSmall ((l.drop i).flatMap one) 0 = ((((putS (l.getD i stk0)).length : Nat) : Int), putS (l.getD i stk0) ++ (l.drop (i + 1)).flatMap one, 0) := by
  rw [drop_at stk0 hi, List.flatMap_cons, rdSmall_one ((leafOk h).all _ (getD_mem stk0 hi))]
structure RoundL (b : List Int) (N : Int) (i : Nat) (k : Int) (R : List Int) (E : Int) (acc : List Stk) : Prop where
  go : ∀ l, checkL l = 0 → layF l = b → i < l.length → k = ((putS (l.getD i stk0)).length : Nat) ∧ R = putS (l.getD i stk0) ++ (l.drop (i + 1)).flatMap one ∧ E = 0
  num : ∀ l, checkL l = 0 → layF l = b → N = l.length ∧ i ≤ l.length ∧ acc = l.take i
theorem RoundL.left {b R : List Int} {N k E : Int} {i : Nat} {acc : List Stk} (h : RoundL b N i k R E acc) (hi : (i : Int) < N) (hk : (R.length : Int) < k) : getL b = ([], 4) := getL_not fun l hl hb => by
  have := h.num l hl hb
  obtain ⟨h1, h2, -⟩ := h.go l hl hb (by omega)
  rw [h1, h2, List.length_append] at hk; omega
theorem RoundL.got {b R : List Int} {N k E : Int} {i : Nat} {acc : List Stk} (h : RoundL b N i k R E acc) (hi : (i : Int) < N) (hk : ¬ (getS (R.take k.toNat)).2 = 0) : getL b = ([], 4) := getL_not fun l hl hb => by
  have := h.num l hl hb
  obtain ⟨h1, h2, -⟩ := h.go l hl hb (by omega)
  rw [h1, h2, Int.toNat_natCast, List.take_left' rfl, getS_put ((leafOk hl).all _ (getD_mem stk0 (by omega))) rfl] at hk
  exact hk rfl
theorem RoundL.next {b R : List Int} {N k E : Int} {i : Nat} {acc : List Stk} (h : RoundL b N i k R E acc) (hi : (i : Int) < N) : ∀ l, checkL l = 0 → layF l = b → N = l.length ∧ i + 1 ≤ l.length ∧ R.drop k.toNat = (l.drop (i + 1)).flatMap one ∧ E = 0 ∧ acc ++ [(getS (R.take k.toNat)).1] = l.take (i + 1) := fun l hl hb => by
  have h0 := h.num l hl hb
  obtain ⟨h1, h2, h3⟩ := h.go l hl hb (by omega)
  have hil : i < l.length := by omega
  rw [h1, h2, Int.toNat_natCast, List.take_left' rfl, List.drop_left' rfl, getS_put ((leafOk hl).all _ (getD_mem stk0 hil)) rfl, take_at stk0 hil, h0.2.2]
  exact ⟨h0.1, hil, rfl, h3, rfl⟩
theorem end_l {b : List Int} {N : Int} {i : Nat} {rb : List Int} {acc : List Stk} (h : ∀ l, checkL l = 0 → layF l = b → N = l.length ∧ i ≤ l.length ∧ rb = (l.drop i).flatMap one ∧ acc = l.take i) (hi : N ≤ (i : Int) ∨ rb.length = 0) : ∀ l, checkL l = 0 → layF l = b → acc = l := fun l hl hb => by
  obtain ⟨h1, h2, h3, h4⟩ := h l hl hb
  rcases hi with hi | hi
  · rw [h4, List.take_of_length_le (by omega)]
  · have := len_sum (l.drop i)
    rw [sumN, ← h3, List.length_drop] at this
    rw [h4, List.take_of_length_le (by omega)]
theorem fin_bad {b : List Int} {acc : List Stk} (h : ∀ l, checkL l = 0 → layF l = b → acc = l) (hp : ¬ (putL acc).2 = 0) : getL b = ([], 4) := getL_not fun l hl hb => by
  have := h l hl hb
  subst this
  exact putL_not hp hl
theorem fin_not {b : List Int} {acc : List Stk} (h : ∀ l, checkL l = 0 → layF l = b → acc = l) (hp : (putL acc).2 = 0) (hn : ¬ strOfBytes (putL acc).1 = strOfBytes b) : getL b = ([], 4) := getL_not fun l hl hb => by
  have := h l hl hb
  subst this
  rw [(putL_zero hp).2, hb] at hn
  exact hn rfl
theorem fin_yes {b : List Int} {acc : List Stk} (hB : isB b) (hp : (putL acc).2 = 0) (hn : strOfBytes (putL acc).1 = strOfBytes b) : getL b = (acc, 0) := by
  obtain ⟨h1, h2⟩ := putL_zero hp
  rw [h2] at hn
  exact getL_put h1 (str_inj (isB_layF _) hB hn)
theorem fLGet : FnOk Try.prog 52 := ⟨_, Try.func52, by decide, rfl⟩
theorem pLGet : PSound Try.prog 52 sLGet := by
  refine psound (T := tab) (S := (spOf [(86, sNew.spec (lsOf [])), (87, sSmall.spec), (88, sLeft.spec), (89, sSGet.spec (lsOf [])), (50, sLPut.spec (lsOf [])), (90, sBEqual.spec (lsOf []))])) (keep := k52) (by kernel_rfl) tabOk (spCons (.inl ⟨nOk lsNil pNew, fNew⟩) (spCons (.inl ⟨pSmall, fSmall⟩) (spCons (.inl ⟨pLeft, fLeft⟩) (spCons (pOk pSGet fSGet (by decide) lsNil) (spCons (pOk pLPut fLPut (by decide) lsNil) (spCons (pOk pBEqual fBEqual (by decide) lsNil) spNil)))))) (by kernel_rfl) Try.func52 (by kernel_rfl) (by decide) fun xs hg hp => ?_
  obtain ⟨b, ⟨⟩⟩ := xs
  obtain ⟨⟨-, hx⟩, -⟩ := hg
  change List Int at b
  change b.length ≤ 50000 at hp
  have hB : isB b := isB_good hx
  change ∀ x ∈ b, Eng.Good (.int .u8) x at hx
  have hb1 := rdSmall_suf b 0
  have hl1 := suf_len hb1
  show vfun tab _ k52 Try.f52 [.sl (.int .u8) b] [] _
  refine Ev.out ?_
  repeat' (first | ((with_reducible refine Ev.mk ?_); conv => whnf) | (with_reducible refine And.intro ?_ ?_) | (intro h))
  all_goals (try simp only [decide_eq_true_eq, decide_eq_false_iff_not, beq_iff_eq, bne_iff_ne, beq_eq_false_iff_ne, bne_eq_false_iff_eq, Int.toNat_natCast, ge_iff_le, gt_iff_lt, Bool.not_eq_true', Bool.not_eq_false', Int.not_lt, Int.not_le, ne_eq] at *)
  all_goals (try dsimp only [Ty.den, Ty.dflt, StT, sNew, sSmall] at *)
  all_goals (try simp only [eq4, ne4, eq3, ne3, eq2, ne2, Prod.eta, List.length_cons, List.length_nil, List.length_append, Nat.zero_add] at *)
  all_goals (try simp (disch := omega) only [wrap64] at *)
  all_goals try first | exact leafDraw (by kernel_rfl) | exact Leaf.mk trivial | (refine Leaf.mk ?_; omega) | (refine Leaf.mk ?_; unfold maxLen; omega)
  generalize hN : (rdSmall b 0).1 = N
  generalize hb0 : (rdSmall b 0).2.1 = b0 at *
  generalize he0 : (rdSmall b 0).2.2 = e0
  have h0 : ∀ l, checkL l = 0 → layF l = b → N = l.length ∧ b0 = l.flatMap one ∧ e0 = 0 := fun l hl hb => by
    have h1 := rd_lay hl
    rw [hb] at h1
    rw [h1] at hN hb0 he0
    exact ⟨hN.symm, hb0.symm, he0.symm⟩
  refine LoopVC.weak [(.cell 2 0, .nil 32 StT)] (fun a : Nat × List Int × Int × List Stk => [(7, .i .i64 a.1)]) (fun a => [(1, .box [.sl (.int .u8) a.2.1, .i .i64 a.2.2.1]), (3, .arr 32 StT a.2.2.2)]) (fun a => a.2.1 <:+ b ∧ a.1 + a.2.1.length ≤ b.length ∧ a.2.2.2.length = a.1 ∧ ∀ l, checkL l = 0 → layF l = b → N = l.length ∧ a.1 ≤ l.length ∧ a.2.1 = (l.drop a.1).flatMap one ∧ a.2.2.1 = 0 ∧ a.2.2.2 = l.take a.1) (fun a => a.2.1.length) (0, b0, e0, []) (Ev.mk ?_)
  (conv => whnf)
  refine ⟨Leaf.mk ?_, Leaf.mk ?_, ?_⟩
  · rfl
  · refine ⟨hb1, by dsimp only; omega, rfl, fun l hl hb => ?_⟩
    obtain ⟨h1, h2, h3⟩ := h0 l hl hb
    exact ⟨h1, Nat.zero_le _, h2, h3, rfl⟩
  intro ⟨i, rb, re, acc⟩ ⟨hrb, hil, hacc, hv⟩
  dsimp only at hrb hil hacc hv ⊢
  have hrl := suf_len hrb
  have hs1 := rdSmall_suf rb re
  have hs1l := suf_len hs1
  repeat' (first | ((with_reducible refine Ev.mk ?_); conv => whnf) | (with_reducible refine And.intro ?_ ?_) | (intro h))
  all_goals (try simp only [decide_eq_true_eq, decide_eq_false_iff_not, beq_iff_eq, bne_iff_ne, beq_eq_false_iff_ne, bne_eq_false_iff_eq, Int.toNat_natCast, ge_iff_le, gt_iff_lt, Bool.not_eq_true', Bool.not_eq_false', Int.not_lt, Int.not_le, ne_eq] at *)
  all_goals (try dsimp only [Ty.den, Ty.dflt, StT, sNew, sSmall, sLeft] at *)
  all_goals (try simp only [eq4, ne4, eq3, ne3, eq2, ne2, Prod.eta, List.length_cons, List.length_nil, List.length_append, Nat.zero_add] at *)
  all_goals (try simp (disch := omega) only [wrap64] at *)
  all_goals try first | exact leafDraw (by kernel_rfl) | exact Leaf.mk trivial | (refine Leaf.mk ?_; omega) | (refine Leaf.mk ?_; unfold maxLen; omega)
  all_goals
    have hcut := suf_cut (hs1.trans hrb)
    have hk0 : 0 ≤ (rdSmall rb re).1 := rdSmall_pos (fun x h => hx x (hrb.subset h)) re
    have hRB : (rdSmall rb re).2.1 <:+ b := hs1.trans hrb
    try simp only [hcut] at *
    have hE : RoundL b N i (rdSmall rb re).1 (rdSmall rb re).2.1 (rdSmall rb re).2.2 acc := ⟨fun l hl hb hi => by
      obtain ⟨h1, h2, h3, h4, h5⟩ := hv l hl hb
      rw [h3, h4, round_l hl hi]; exact ⟨rfl, rfl, rfl⟩, fun l hl hb => by
      obtain ⟨h1, h2, h3, h4, h5⟩ := hv l hl hb
      exact ⟨h1, h2, h5⟩⟩
    have hend : N ≤ (i : Int) ∨ rb.length = 0 → ∀ l, checkL l = 0 → layF l = b → acc = l := end_l fun l hl hb => by
      obtain ⟨h1, h2, h3, h4, h5⟩ := hv l hl hb
      exact ⟨h1, h2, h3, h5⟩
    have hno : (i : Int) < N → (rdSmall rb re).2.1.length = rb.length → getL b = ([], 4) := fun hi hc => getL_not fun l hl hb => by
      obtain ⟨h1, h2, h3, h4, h5⟩ := hv l hl hb
      have h6 := (hE.go l hl hb (by omega)).2.1
      have h7 : rb = one (l.getD i stk0) ++ (l.drop (i + 1)).flatMap one := by rw [h3, drop_at stk0 (by omega), List.flatMap_cons]
      rw [h6, h7, one_okk ((leafOk hl).all _ (getD_mem stk0 (by omega)))] at hc
      have := (putSmall_len ((putS (l.getD i stk0)).length : Nat)).1
      simp only [List.length_append] at hc; omega
    generalize (rdSmall rb re).1 = k at *
    generalize (rdSmall rb re).2.1 = R at *
    generalize (rdSmall rb re).2.2 = E at *
  · exact Leaf.mk (retGl (u := ([], 4)) (v := getL b) (hno (by omega) (by omega)).symm)
  · exact Leaf.mk (retGl (u := ([], 4)) (v := getL b) (hE.left (by omega) (by omega)).symm)
  · exact Leaf.mk hk0
  · refine Leaf.mk (show List.length (α := Int) _ ≤ 100000 from ?_)
    rw [List.length_drop, List.length_take]; omega
  · exact Leaf.mk (retGl (u := ([], 4)) (v := getL b) (hE.got (by omega) (show ¬ (getS (R.take k.toNat)).2 = 0 from h)).symm)
  · exact Leaf.mk hk0
  · refine Leaf.mk ?_
    rw [List.length_drop, List.length_take]; omega
  · refine Leaf.mk (Exists.intro (i + 1, R.drop k.toNat, 0, acc ++ [(getS (R.take k.toNat)).1]) ⟨?_, ⟨(List.drop_suffix _ _).trans hRB, ?_, by dsimp only; rw [List.length_append]; simp; omega, fun l hl hb => ?_⟩, ?_⟩)
    · rw [List.take_length]; rfl
    · dsimp only; rw [List.length_drop]; omega
    · obtain ⟨h1, h2, h3, h4, h5⟩ := hE.next (by omega) l hl hb
      exact ⟨h1, h2, h3, rfl, h5⟩
    · dsimp only; rw [List.length_drop]; omega
  all_goals try exact Leaf.mk (show acc.length ≤ 100000 by omega)
  all_goals
    have hend := hend (by omega)
  all_goals first
    | exact Leaf.mk (retGl (u := ([], 4)) (v := getL b) (fin_bad hend (show ¬ (putL acc).2 = 0 from ‹_›)).symm)
    | exact Leaf.mk (retGl (u := ([], 4)) (v := getL b) (fin_not hend (show (putL acc).2 = 0 from ‹_›) (fun hc => beq_eq_false_iff_ne.1 (show (strOfBytes b == strOfBytes (putL acc).1) = false from ‹_›) hc.symm)).symm)
    | exact Leaf.mk (retGl (u := (acc, 0)) (v := getL b) (fin_yes hB (show (putL acc).2 = 0 from ‹_›) (beq_iff_eq.1 (show (strOfBytes b == strOfBytes (putL acc).1) = true from ‹_›)).symm).symm)
end Go.Proofs.Ytkmfjlfejdoehaa

set_option linter.unusedVariables false
set_option linter.unusedSimpArgs false
set_option maxRecDepth 8000
set_option maxHeartbeats 4000000
namespace Go.Proofs.Ytkmfjlfejdoehaa
open Go.Eng
def sIGet : PSpec := ⟨[.d BT], [⟨true, [.d InT]⟩, ⟨false, [.d (.int .i64)]⟩], fun x => List.length (α := Int) x.1 ≤ 5000, fun x => (((getI x.1).1, ()), ((getI x.1).2, ()), ())⟩
theorem retGi {u v : Inn × Int} (h : u = v) : (some ((u.1, ()), (u.2, ()), ()) : Option ((Inn × Unit) × (Int × Unit) × Unit)) = some ((v.1, ()), (v.2, ()), ()) := by rw [h]
theorem ValI.hd {n : Inn} {b : List Int} (h : ValI n) (hb : layI n = b) : rdSmall b 0 = (((n.2.1.length : Nat) : Int), n.1.flatMap putText ++ kfrom n.2.1 n.2.2, 0) := by
  subst hb
  have := h.k6
  rw [layI_eq h.w1, rdSmall_put (Int.natCast_nonneg _) (by omega)]
theorem kfrom_at {ks : List Int} {bs : List (List Msg)} {i : Nat} (h : bs.length = ks.length) (hi : i < ks.length) : kfrom (ks.drop i) (bs.drop i) = kb (ks.getD i 0) (bs.getD i []) ++ kfrom (ks.drop (i + 1)) (bs.drop (i + 1)) := by
  rw [drop_at 0 hi, drop_at [] (show i < bs.length by omega), kfrom]
theorem ValI.kid {n : Inn} {i : Nat} (h : ValI n) (hi : i < n.2.1.length) : rdSmall (kfrom (n.2.1.drop i) (n.2.2.drop i)) 0 = (n.2.1.getD i 0, putSmall ((n.2.2.getD i []).length : Nat) ++ ((n.2.2.getD i []).flatMap pm ++ kfrom (n.2.1.drop (i + 1)) (n.2.2.drop (i + 1))), 0) ∧
    rdSmall (putSmall ((n.2.2.getD i []).length : Nat) ++ ((n.2.2.getD i []).flatMap pm ++ kfrom (n.2.1.drop (i + 1)) (n.2.2.drop (i + 1)))) 0 = ((((n.2.2.getD i []).length : Nat) : Int), (n.2.2.getD i []).flatMap pm ++ kfrom (n.2.1.drop (i + 1)) (n.2.2.drop (i + 1)), 0) := by
  have h1 := h.ks _ (getD_mem (xs := n.2.1) 0 hi)
  have h2 := h.bl (getD_mem (xs := n.2.2) [] (show i < n.2.2.length by have := h.w1; omega))
  rw [kfrom_at h.w1 hi, kb, max0_ok h1.1, List.append_assoc, List.append_assoc]
  exact ⟨rdSmall_put h1.1 h1.2 _, rdSmall_put (Int.natCast_nonneg _) (by omega) _⟩
theorem ValI.msg {n : Inn} {i j : Nat} (h : ValI n) (h0 : nnI n) (hi : i < n.2.2.length) (hj : j < (n.2.2.getD i []).length) (r : List Int) : getM (((n.2.2.getD i []).drop j).flatMap pm ++ r) = ((n.2.2.getD i []).getD j msg0, (((putM ((n.2.2.getD i []).getD j msg0)).length : Nat) : Int), 0) ∧
    (((n.2.2.getD i []).drop j).flatMap pm ++ r).drop (putM ((n.2.2.getD i []).getD j msg0)).length = ((n.2.2.getD i []).drop (j + 1)).flatMap pm ++ r := by
  have hb := getD_mem (xs := n.2.2) [] hi
  have hm := getD_mem (xs := n.2.2.getD i []) msg0 hj
  have h1 := h.ms _ hb _ hm
  rw [drop_at msg0 hj, List.flatMap_cons, List.append_assoc, pm_ok h1]
  exact ⟨getM_put (h0 _ hb _ hm) h1 (List.prefix_append _ _), List.drop_left' rfl⟩
theorem ValI.piv {n : Inn} {i : Nat} (h : ValI n) (hi : i < n.1.length) (r : List Int) : rdText ((n.1.drop i).flatMap putText ++ r) 0 16 = (n.1.getD i [], (n.1.drop (i + 1)).flatMap putText ++ r, 0) := by
  have h9 := h.ps _ (getD_mem (xs := n.1) [] hi)
  rw [drop_at [] hi, List.flatMap_cons, List.append_assoc, rdText_put (by omega)]
def min6 (x : Int) : Int := if 6 < x then 6 else x
theorem min6_of (x : Int) {inst : Decidable (6 < x)} : @ite Int (6 < x) inst 6 x = min6 x := by unfold min6; split <;> first | rfl | (split <;> first | rfl | omega)
theorem fIGet : FnOk Try.prog 53 := ⟨_, Try.func53, by decide, rfl⟩
theorem pIGet : PSound Try.prog 53 sIGet := by
  refine psound (T := tab) (S := (spOf [(86, sNew.spec (lsOf [])), (87, sSmall.spec), (91, sText.spec), (88, sLeft.spec), (92, sMGet.spec (lsOf [])), (51, sIPut.spec (lsOf [])), (90, sBEqual.spec (lsOf []))])) (keep := k53) (by kernel_rfl) tabOk (spCons (.inl ⟨nOk lsNil pNew, fNew⟩) (spCons (.inl ⟨pSmall, fSmall⟩) (spCons (.inl ⟨pText, fText⟩) (spCons (.inl ⟨pLeft, fLeft⟩) (spCons (pOk pMGet fMGet (by decide) lsNil) (spCons (pOk pIPut fIPut (by decide) lsNil) (spCons (pOk pBEqual fBEqual (by decide) lsNil) spNil))))))) (by kernel_rfl) Try.func53 (by kernel_rfl) (by decide) fun xs hg hp => ?_
  obtain ⟨b, ⟨⟩⟩ := xs
  obtain ⟨⟨-, hx⟩, -⟩ := hg
  change List Int at b
  change b.length ≤ 5000 at hp
  have hB : isB b := isB_good hx
  change ∀ x ∈ b, Eng.Good (.int .u8) x at hx
  have hb1 := rdSmall_suf b 0
  have hl1 := suf_len hb1
  show vfun tab _ k53 Try.f53 [.sl (.int .u8) b] [] _
  refine Ev.out ?_
  repeat' (first | ((with_reducible refine Ev.mk ?_); conv => whnf) | (with_reducible refine And.intro ?_ ?_) | (intro h))
  all_goals (try simp only [decide_eq_true_eq, decide_eq_false_iff_not, beq_iff_eq, bne_iff_ne, beq_eq_false_iff_ne, bne_eq_false_iff_eq, Int.toNat_natCast, ge_iff_le, gt_iff_lt, Bool.not_eq_true', Bool.not_eq_false', Int.not_lt, Int.not_le, ne_eq] at *)
  all_goals (try dsimp only [Ty.den, Ty.dflt, InT, sNew, sSmall] at *)
  all_goals (try simp only [eq4, ne4, eq3, ne3, eq2, ne2, Prod.eta, List.length_cons, List.length_nil, List.length_append, Nat.zero_add] at *)
  all_goals (try simp (disch := omega) only [wrap64] at *)
  all_goals try first | exact leafDraw (by kernel_rfl) | exact Leaf.mk trivial | (refine Leaf.mk ?_; omega) | (refine Leaf.mk ?_; unfold maxLen; omega)
  erw [min6_of]
  generalize hN : (rdSmall b 0).1 = N
  generalize hb0 : (rdSmall b 0).2.1 = b0 at *
  generalize he0 : (rdSmall b 0).2.2 = e0
  have h0 : ∀ n, checkI n = 0 → nnI n → layI n = b → min6 N = n.2.1.length ∧ b0 = n.1.flatMap putText ++ kfrom n.2.1 n.2.2 ∧ e0 = 0 := fun n hc hn hb => by
    have v := valI hc
    have h1 := v.hd hb
    have h2 := v.k6
    rw [h1] at hN hb0 he0
    refine ⟨?_, hb0.symm, he0.symm⟩
    rw [← hN, min6, if_neg (by dsimp only; omega)]
  have hM : min6 N ≤ 6 := by unfold min6; split <;> omega
  generalize min6 N = M at *
  refine LoopVC.weak [(.cell 2 0, .nil 9 .str)] (fun a : Nat × List Int × Int × List S8 => [(7, .i .i64 a.1)]) (fun a => [(1, .box [.sl (.int .u8) a.2.1, .i .i64 a.2.2.1]), (3, .arr 9 .str a.2.2.2)]) (fun a => 1 ≤ a.1 ∧ a.1 ≤ 7 ∧ a.2.1 <:+ b ∧ a.2.2.2.length + 1 = a.1 ∧ (∀ p ∈ a.2.2.2, p.length ≤ 16) ∧ ∀ n, checkI n = 0 → nnI n → layI n = b → M = n.2.1.length ∧ a.1 ≤ n.2.1.length ∧ a.2.1 = (n.1.drop (a.1 - 1)).flatMap putText ++ kfrom n.2.1 n.2.2 ∧ a.2.2.1 = 0 ∧ a.2.2.2 = n.1.take (a.1 - 1)) (fun a => 7 - a.1) (1, b0, e0, []) (Ev.mk ?_)
  (conv => whnf)
  refine ⟨Leaf.mk ?_, Leaf.mk ?_, ?_⟩
  · rfl
  · refine ⟨by dsimp only; omega, by dsimp only; omega, hb1, rfl, fun p hp => by simp at hp, fun n hc hn hb => ?_⟩
    have v := valI hc
    have h2 := v.k2
    obtain ⟨h1, h3, h4⟩ := h0 n hc hn hb
    exact ⟨h1, by dsimp only; omega, h3, h4, rfl⟩
  intro ⟨i, rb, re, acc⟩ ⟨hi1, hi7, hrb, hacc, hat, hv⟩
  dsimp only at hi1 hi7 hrb hacc hat hv ⊢
  have hrl := suf_len hrb
  repeat' (first | ((with_reducible refine Ev.mk ?_); conv => whnf) | (with_reducible refine And.intro ?_ ?_) | (intro h))
  all_goals (try simp only [decide_eq_true_eq, decide_eq_false_iff_not, beq_iff_eq, bne_iff_ne, beq_eq_false_iff_ne, bne_eq_false_iff_eq, Int.toNat_natCast, ge_iff_le, gt_iff_lt, Bool.not_eq_true', Bool.not_eq_false', Int.not_lt, Int.not_le, ne_eq] at *)
  all_goals (try dsimp only [Ty.den, Ty.dflt, InT, sNew, sSmall, sText] at *)
  all_goals (try simp only [eq4, ne4, eq3, ne3, eq2, ne2, Prod.eta, List.length_cons, List.length_nil, List.length_append, Nat.zero_add] at *)
  all_goals (try simp (disch := omega) only [wrap64] at *)
  all_goals try first | exact leafDraw (by kernel_rfl) | exact Leaf.mk trivial | (refine Leaf.mk ?_; omega) | (refine Leaf.mk ?_; unfold maxLen; omega)
  · have hts := rdText_suf rb re 16
    have htm := rdText_max9 rb re (m := 16) (by decide)
    refine Leaf.mk (Exists.intro (i + 1, (rdText rb re 16).2.1, (rdText rb re 16).2.2, acc ++ [(rdText rb re 16).1]) ⟨rfl, ⟨by dsimp only; omega, by dsimp only; omega, hts.trans hrb, by dsimp only; rw [List.length_append, List.length_singleton]; omega, fun p hp => ?_, fun n hc hn hb => ?_⟩, by dsimp only; omega⟩)
    · rcases List.mem_append.1 hp with hp | hp
      · exact hat p hp
      · rw [List.mem_singleton] at hp; subst hp; omega
    · obtain ⟨h1, h2, h3, h4, h5⟩ := hv n hc hn hb
      have v := valI hc
      have hw2 := v.w2
      have h6 := v.piv (i := i - 1) (by omega) (kfrom n.2.1 n.2.2)
      dsimp only
      rw [h3, h4, h6, h5, show i + 1 - 1 = i - 1 + 1 by omega]
      exact ⟨h1, by omega, rfl, rfl, (take_at [] (show i - 1 < n.1.length by omega)).symm⟩
  clear hrl
  have hv1 : ∀ n, checkI n = 0 → nnI n → layI n = b → M = n.2.1.length ∧ rb = kfrom n.2.1 n.2.2 ∧ re = 0 ∧ acc = n.1 := fun n hc hn hb => by
    obtain ⟨h1, h2, h3, h4, h5⟩ := hv n hc hn hb
    have hw2 := (valI hc).w2
    rw [drop_end (by omega)] at h3
    exact ⟨h1, h3, h4, by rw [h5, List.take_of_length_le (by omega)]⟩
  clear hv
  refine LoopVC.weak [(.cell 2 1, .nil 3 (.int .i64)), (.cell 2 2, .nil 37 (.slice MsgT))] (fun a : Nat × List Int × Int × List Int × List (List Msg) => [(35, .i .i64 a.1)]) (fun a => [(1, .box [.sl (.int .u8) a.2.1, .i .i64 a.2.2.1]), (4, .arr 3 (.int .i64) a.2.2.2.1), (5, .arr 37 (.slice MsgT) a.2.2.2.2)]) (fun a => (a.1 : Int) ≤ max M 0 ∧ a.2.1 <:+ b ∧ a.2.2.2.1.length = a.1 ∧ a.2.2.2.2.length = a.1 ∧ a.2.2.2.2.flatten.length + a.2.1.length ≤ b.length ∧ (∀ l ∈ a.2.2.2.2, ∀ m ∈ l, 0 ≤ m.1) ∧ ∀ n, checkI n = 0 → nnI n → layI n = b → M = n.2.1.length ∧ acc = n.1 ∧ a.2.1 = kfrom (n.2.1.drop a.1) (n.2.2.drop a.1) ∧ a.2.2.1 = 0 ∧ a.2.2.2.1 = n.2.1.take a.1 ∧ a.2.2.2.2 = n.2.2.take a.1) (fun a => 7 - a.1) (0, rb, re, [], []) (Ev.mk ?_)
  (conv => whnf)
  refine ⟨Leaf.mk ?_, Leaf.mk ?_, ?_⟩
  · rfl
  · have := suf_len hrb
    refine ⟨by dsimp only; omega, hrb, rfl, rfl, by dsimp only; simp; exact this, fun l hl => by simp at hl, fun n hc hn hb => ?_⟩
    obtain ⟨h1, h3, h4, h5⟩ := hv1 n hc hn hb
    exact ⟨h1, h5, h3, h4, rfl, rfl⟩
  clear hv1 hrb
  intro ⟨i, rb, re, ks, bs⟩ ⟨hi, hrb, hks, hbs, hfl, hnn, hv⟩
  dsimp only at hi hrb hks hbs hfl hnn hv ⊢
  have hrl := suf_len hrb
  have hs1 := rdSmall_suf rb re
  have hs2 := rdSmall_suf (rdSmall rb re).2.1 (rdSmall rb re).2.2
  have hs1l := suf_len hs1
  have hs2l := suf_len hs2
  repeat' (first | ((with_reducible refine Ev.mk ?_); conv => whnf) | (with_reducible refine And.intro ?_ ?_) | (intro h))
  all_goals (try simp only [decide_eq_true_eq, decide_eq_false_iff_not, beq_iff_eq, bne_iff_ne, beq_eq_false_iff_ne, bne_eq_false_iff_eq, Int.toNat_natCast, ge_iff_le, gt_iff_lt, Bool.not_eq_true', Bool.not_eq_false', Int.not_lt, Int.not_le, ne_eq] at *)
  all_goals (try dsimp only [Ty.den, Ty.dflt, InT, sNew, sSmall, sText, sLeft] at *)
  all_goals (try simp only [eq4, ne4, eq3, ne3, eq2, ne2, Prod.eta, List.length_cons, List.length_nil, List.length_append, Nat.zero_add] at *)
  all_goals (try simp (disch := omega) only [wrap64] at *)
  all_goals try first | exact leafDraw (by kernel_rfl) | exact Leaf.mk trivial | (refine Leaf.mk ?_; omega) | (refine Leaf.mk ?_; unfold maxLen; omega)
  · have hRB := hs2.trans (hs1.trans hrb)
    have hcut := suf_cut hRB
    simp only [hcut]
    clear hcut
    have hk : ∀ n, checkI n = 0 → nnI n → layI n = b → M = n.2.1.length ∧ acc = n.1 ∧ (rdSmall rb re).1 = n.2.1.getD i 0 ∧ (rdSmall (rdSmall rb re).2.1 (rdSmall rb re).2.2).1 = (((n.2.2.getD i []).length : Nat) : Int) ∧ (rdSmall (rdSmall rb re).2.1 (rdSmall rb re).2.2).2.1 = (n.2.2.getD i []).flatMap pm ++ kfrom (n.2.1.drop (i + 1)) (n.2.2.drop (i + 1)) ∧ ks = n.2.1.take i ∧ bs = n.2.2.take i := fun n hc hn hb => by
      obtain ⟨h1, h2, h3, h4, h5, h6⟩ := hv n hc hn hb
      have v := valI hc
      obtain ⟨g1, g2⟩ := v.kid (i := i) (by omega)
      rw [h3, h4, g1]
      dsimp only
      rw [g2]
      exact ⟨h1, h2, rfl, rfl, rfl, h5, h6⟩
    generalize hk1 : (rdSmall rb re).1 = k1 at *
    have hR2 : ((rdSmall (rdSmall rb re).2.1 (rdSmall rb re).2.2).2.1).length ≤ rb.length := by omega
    generalize (rdSmall (rdSmall rb re).2.1 (rdSmall rb re).2.2).1 = k2 at *
    generalize (rdSmall (rdSmall rb re).2.1 (rdSmall rb re).2.2).2.1 = R2 at *
    clear hv hs1 hs2 hs1l hs2l
    refine LoopVC.weak [(.slot 8, .nil 74 MsgT)] (fun a : Nat × List Int × List Msg => [(11, .i .i64 a.1), (10, .sl (.int .u8) a.2.1)]) (fun a => [(2, .arr 74 MsgT a.2.2)]) (fun a => a.2.1 <:+ b ∧ a.2.2.length = a.1 ∧ a.1 + a.2.1.length ≤ R2.length ∧ (∀ m ∈ a.2.2, 0 ≤ m.1) ∧ ∀ n, checkI n = 0 → nnI n → layI n = b → a.1 ≤ (n.2.2.getD i []).length ∧ a.2.1 = ((n.2.2.getD i []).drop a.1).flatMap pm ++ kfrom (n.2.1.drop (i + 1)) (n.2.2.drop (i + 1)) ∧ a.2.2 = (n.2.2.getD i []).take a.1) (fun a => a.2.1.length) (0, R2, []) (Ev.mk ?_)
    (conv => whnf)
    refine ⟨Leaf.mk ?_, Leaf.mk ?_, ?_⟩
    · rfl
    · refine ⟨hRB, rfl, by dsimp only; omega, fun m hm => by simp at hm, fun n hc hn hb => ?_⟩
      obtain ⟨h1, h2, h3, h4, h5, h6⟩ := hk n hc hn hb
      exact ⟨Nat.zero_le _, h5, rfl⟩
    intro ⟨j, rest, buf⟩ ⟨hrs, hbl, hjl, hnb, hw⟩
    dsimp only at hrs hbl hjl hnb hw ⊢
    have hrsl := suf_len hrs
    repeat' (first | ((with_reducible refine Ev.mk ?_); conv => whnf) | (with_reducible refine And.intro ?_ ?_) | (intro h))
    all_goals (try simp only [decide_eq_true_eq, decide_eq_false_iff_not, beq_iff_eq, bne_iff_ne, beq_eq_false_iff_ne, bne_eq_false_iff_eq, Int.toNat_natCast, ge_iff_le, gt_iff_lt, Bool.not_eq_true', Bool.not_eq_false', Int.not_lt, Int.not_le, ne_eq] at *)
    all_goals (try dsimp only [Ty.den, Ty.dflt, InT, sNew, sMGet] at *)
    all_goals (try simp only [eq4, ne4, eq3, ne3, eq2, ne2, Prod.eta, List.length_cons, List.length_nil, List.length_append, Nat.zero_add] at *)
    all_goals (try simp (disch := omega) only [wrap64] at *)
    all_goals try first | exact leafDraw (by kernel_rfl) | exact Leaf.mk trivial | (refine Leaf.mk ?_; omega) | (refine Leaf.mk ?_; unfold maxLen; omega)
    all_goals try
      have hst := getM_step (b := rest) ‹(getM rest).2.2 = 0›
    · refine Leaf.mk (retGi (u := (inn0, 4)) (v := getI b) (getI_not fun n hc hn hb => ?_).symm)
      obtain ⟨h1, h2, h3, h4, h5, h6, h7⟩ := hk n hc hn hb
      obtain ⟨g1, g2, g3⟩ := hw n hc hn hb
      have v := valI hc
      have h9 := (v.msg hn (i := i) (j := j) (by have := v.w1; omega) (by omega) (kfrom (n.2.1.drop (i + 1)) (n.2.2.drop (i + 1)))).1
      rw [← g2] at h9
      exact absurd (by rw [h9]) ‹¬ (getM rest).2.2 = 0›
    · exact Leaf.mk (by omega)
    · exact Leaf.mk (by omega)
    · refine Leaf.mk (Exists.intro (j + 1, rest.drop (getM rest).2.1.toNat, buf ++ [(getM rest).1]) ⟨?_, ⟨(List.drop_suffix _ _).trans hrs, by dsimp only; rw [List.length_append, List.length_singleton]; omega, by dsimp only; rw [List.length_drop]; omega, fun m hm => ?_, fun n hc hn hb => ?_⟩, by dsimp only; rw [List.length_drop]; omega⟩)
      · rw [List.take_length]; rfl
      · rcases List.mem_append.1 hm with hm | hm
        · exact hnb m hm
        · rw [List.mem_singleton] at hm; subst hm; exact getM_nn (fun x h => hB x (hrs.subset h))
      · obtain ⟨h1, h2, h3, h4, h5, h6, h7⟩ := hk n hc hn hb
        obtain ⟨g1, g2, g3⟩ := hw n hc hn hb
        have v := valI hc
        have hjl : j < (n.2.2.getD i []).length := by omega
        obtain ⟨q1, q2⟩ := v.msg hn (i := i) (j := j) (by have := v.w1; omega) hjl (kfrom (n.2.1.drop (i + 1)) (n.2.2.drop (i + 1)))
        rw [← g2] at q1 q2
        dsimp only
        rw [q1]
        dsimp only
        rw [Int.toNat_natCast, q2, g3]
        exact ⟨by omega, rfl, (take_at msg0 hjl).symm⟩
    · refine Leaf.mk (Exists.intro (i + 1, rest, 0, ks ++ [k1], bs ++ [buf]) ⟨rfl, ⟨by dsimp only; omega, hrs, by dsimp only; rw [List.length_append, List.length_singleton]; omega, by dsimp only; rw [List.length_append, List.length_singleton]; omega, ?_, fun l hl => ?_, fun n hc hn hb => ?_⟩, by dsimp only; omega⟩)
      · dsimp only
        rw [List.flatten_append, List.length_append, List.flatten_cons, List.flatten_nil, List.append_nil]; omega
      · rcases List.mem_append.1 hl with hl | hl
        · exact hnn l hl
        · rw [List.mem_singleton] at hl; subst hl; exact hnb
      · obtain ⟨h1, h2, h3, h4, h5, h6, h7⟩ := hk n hc hn hb
        obtain ⟨g1, g2, g3⟩ := hw n hc hn hb
        have v := valI hc
        have hi9 : i < n.2.1.length := by omega
        have hj9 : j = (n.2.2.getD i []).length := by omega
        dsimp only
        rw [hj9, List.drop_length, List.flatMap_nil, List.nil_append] at g2
        rw [hj9, List.take_length] at g3
        rw [h6, h7, h3, g3, take_at (0 : Int) hi9, take_at ([] : List Msg) (show i < n.2.2.length by have := v.w1; omega)]
        exact ⟨h1, h2, g2, rfl, rfl, rfl⟩
  all_goals try
    have hend : ∀ n, checkI n = 0 → nnI n → layI n = b → (acc, ks, bs) = n := fun n hc hn hb => by
      obtain ⟨h1, h2, h3, h4, h5, h6⟩ := hv n hc hn hb
      have := (valI hc).w1
      rw [List.take_of_length_le (by omega)] at h5 h6
      obtain ⟨x, y, z⟩ := n
      dsimp only at h2 h5 h6
      rw [h2, h5, h6]
    have hnI : nnI (acc, ks, bs) := hnn
  · exact Leaf.mk (show IPre (acc, ks, bs) from ⟨by dsimp only; omega, fun p hp => by have := hat p hp; omega, by dsimp only; omega, by dsimp only; omega, by dsimp only; omega⟩)
  · exact Leaf.mk (retGi (u := (inn0, 4)) (v := getI b) (finI_bad hend (show ¬ (putI (acc, ks, bs)).2 = 0 from ‹_›)).symm)
  · exact Leaf.mk (retGi (u := (inn0, 4)) (v := getI b) (finI_not hend (show (putI (acc, ks, bs)).2 = 0 from ‹_›) (fun hc => beq_eq_false_iff_ne.1 (show (strOfBytes b == strOfBytes (putI (acc, ks, bs)).1) = false from ‹_›) hc.symm)).symm)
  · exact Leaf.mk (retGi (u := ((acc, ks, bs), 0)) (v := getI b) (finI_yes hB hnI (show (putI (acc, ks, bs)).2 = 0 from ‹_›) (beq_iff_eq.1 (show (strOfBytes b == strOfBytes (putI (acc, ks, bs)).1) = true from ‹_›)).symm).symm)
end Go.Proofs.Ytkmfjlfejdoehaa

set_option linter.unusedVariables false
set_option linter.unusedSimpArgs false
set_option maxRecDepth 8000
set_option maxHeartbeats 4000000
namespace Go.Proofs.Ytkmfjlfejdoehaa
open Go.Eng
abbrev NdT : Ty := .pair (.int .i64) (.pair SsT InT)
abbrev Nod : Type := Int × List Stk × Inn
abbrev nod0 : Nod := (0, [], inn0)
structure NPre (n : Nod) : Prop where
  l : n.2.1.length ≤ 100000
  i : IPre n.2.2
def emptyN (n : Nod) : Bool := if n.1 = 0 then decide (n.2.2.1.length = 0 ∧ n.2.2.2.1.length = 0 ∧ n.2.2.2.2.length = 0) else decide (n.2.1.length = 0)
def sizeN (n : Nod) : Int := if n.1 = 0 then 1 + (sizeF n.2.1 : Nat) else 1 + (sizeI n.2.2 : Nat)
def insideN (n : Nod) : Int := if n.1 = 0 then checkL n.2.1 else checkI n.2.2
def checkN (n : Nod) : Int := if n.1 < 0 ∨ 40 < n.1 then 9 else if emptyN n = true then (if insideN n = 0 then (if 1016 < sizeN n then 5 else 0) else insideN n) else 4
theorem fContent : FnOk Try.prog 49 := ⟨_, Try.func49, by decide, rfl⟩
noncomputable def iContent : Eng.Spec := inl tab (spOf []) k49 Try.f49
theorem pContent : SpecOk Try.prog 49 iContent := inl_ok tabOk spNil (by kernel_rfl) Try.func49 (by kernel_rfl)
def sEmptyN : PSpec := ⟨[.d NdT], [⟨false, [.d .bool]⟩], fun x => NPre x.1, fun x => ((emptyN x.1, ()), ())⟩
def sInsideN : PSpec := ⟨[.d NdT], [⟨false, [.d (.int .i64)]⟩], fun x => NPre x.1, fun x => ((insideN x.1, ()), ())⟩
def sNSize : PSpec := ⟨[.d NdT], [⟨false, [.d (.int .i64)]⟩], fun x => NPre x.1, fun x => ((sizeN x.1, ()), ())⟩
def sNCheck : PSpec := ⟨[.d NdT], [⟨false, [.d (.int .i64)]⟩], fun x => NPre x.1, fun x => ((checkN x.1, ()), ())⟩
theorem emptyN_l {n : Nod} (h : ¬ n.1 = 0) : emptyN n = decide (n.2.1.length = 0) := by rw [emptyN, if_neg h]
theorem emptyN_i {n : Nod} (h : n.1 = 0) : emptyN n = decide (n.2.2.1.length = 0 ∧ n.2.2.2.1.length = 0 ∧ n.2.2.2.2.length = 0) := by rw [emptyN, if_pos h]
theorem fEmptyN : FnOk Try.prog 47 := ⟨_, Try.func47, by decide, rfl⟩
theorem pEmptyN : PSound Try.prog 47 sEmptyN := by
  refine psound (T := tab) (S := (spOf [])) (keep := k47) (by kernel_rfl) tabOk spNil (by kernel_rfl) Try.func47 (by kernel_rfl) (by decide) fun xs hg hp => ?_
  obtain ⟨⟨d, l, ps, ks, bs⟩, ⟨⟩⟩ := xs
  clear hg
  change Int at d
  change List Stk at l
  change List (List UInt8) at ps
  change List Int at ks
  change List (List Msg) at bs
  change NPre (d, l, ps, ks, bs) at hp
  have hpl := hp.l
  have hpi := hp.i
  have hpp := hpi.p
  have hpk := hpi.k
  have hpb := hpi.b
  dsimp only at hpl hpi hpp hpk hpb
  show vfun tab _ k47 Try.f47 [.agg [.i .i64 d, .sl StT l, .sl .str ps, .sl (.int .i64) ks, .sl (.slice MsgT) bs]] [] _
  refine Ev.out ?_
  repeat' (first | ((with_reducible refine Ev.mk ?_); conv => whnf) | (with_reducible refine And.intro ?_ ?_) | (intro h))
  all_goals (try simp only [decide_eq_true_eq, decide_eq_false_iff_not, beq_iff_eq, bne_iff_ne, beq_eq_false_iff_ne, bne_eq_false_iff_eq, Int.toNat_natCast, ge_iff_le, gt_iff_lt, Bool.not_eq_true', Bool.not_eq_false', Int.not_lt, Int.not_le, ne_eq] at *)
  all_goals (try dsimp only [Ty.den, Ty.dflt, NdT, SsT] at *)
  all_goals (try simp only [eq4, ne4, eq3, ne3, eq2, ne2, Prod.eta, List.length_cons, List.length_nil, List.length_append, Nat.zero_add] at *)
  all_goals (try simp (disch := omega) only [wrap64] at *)
  all_goals try first | exact leafDraw (by kernel_rfl) | exact Leaf.mk trivial | (refine Leaf.mk ?_; omega) | (refine Leaf.mk ?_; unfold maxLen; omega)
  · refine Leaf.mk (ret1 (show ((l.length : Int) == 0) = emptyN (d, l, ps, ks, bs) from ?_))
    rw [emptyN_l h]; apply Bool.eq_iff_iff.2; simp
  · refine Leaf.mk (ret1 (show ((ps.length : Int) + ks.length + bs.length == 0) = emptyN (d, l, ps, ks, bs) from ?_))
    rw [emptyN_i h]; apply Bool.eq_iff_iff.2; rw [beq_iff_eq, decide_eq_true_iff]; dsimp only; omega
theorem fInsideN : FnOk Try.prog 48 := ⟨_, Try.func48, by decide, rfl⟩
theorem pInsideN : PSound Try.prog 48 sInsideN := by
  refine psound (T := tab) (S := (spOf [(49, iContent), (82, sLCheck.spec (lsOf [])), (83, sICheck.spec (lsOf []))])) (keep := k48) (by kernel_rfl) tabOk (spCons (.inl ⟨pContent, fContent⟩) (spCons (pOk pLCheck fLCheck (by decide) lsNil) (spCons (pOk pICheck fICheck (by decide) lsNil) spNil))) (by kernel_rfl) Try.func48 (by kernel_rfl) (by decide) fun xs hg hp => ?_
  obtain ⟨⟨d, l, ps, ks, bs⟩, ⟨⟩⟩ := xs
  clear hg
  change Int at d
  change List Stk at l
  change List (List UInt8) at ps
  change List Int at ks
  change List (List Msg) at bs
  change NPre (d, l, ps, ks, bs) at hp
  have hpl := hp.l
  have hpi := hp.i
  have hpp := hpi.p
  have hpk := hpi.k
  have hpb := hpi.b
  dsimp only at hpl hpi hpp hpk hpb
  show vfun tab _ k48 Try.f48 [.agg [.i .i64 d, .sl StT l, .sl .str ps, .sl (.int .i64) ks, .sl (.slice MsgT) bs]] [] _
  refine Ev.out ?_
  repeat' (first | ((with_reducible refine Ev.mk ?_); conv => whnf) | (with_reducible refine And.intro ?_ ?_) | (intro h))
  all_goals (try simp only [decide_eq_true_eq, decide_eq_false_iff_not, beq_iff_eq, bne_iff_ne, beq_eq_false_iff_ne, bne_eq_false_iff_eq, Int.toNat_natCast, ge_iff_le, gt_iff_lt, Bool.not_eq_true', Bool.not_eq_false', Int.not_lt, Int.not_le, ne_eq] at *)
  all_goals (try dsimp only [Ty.den, Ty.dflt, NdT, SsT] at *)
  all_goals (try simp only [eq4, ne4, eq3, ne3, eq2, ne2, Prod.eta, List.length_cons, List.length_nil, List.length_append, Nat.zero_add] at *)
  all_goals (try simp (disch := omega) only [wrap64] at *)
  all_goals try first | exact leafDraw (by kernel_rfl) | exact Leaf.mk trivial | (refine Leaf.mk ?_; omega) | (refine Leaf.mk ?_; unfold maxLen; omega)
  · exact Leaf.mk hpl
  · refine Leaf.mk (ret1 (show checkL l = insideN (d, l, ps, ks, bs) from ?_))
    rw [insideN, if_pos h]
  · exact Leaf.mk hpi
  · refine Leaf.mk (ret1 (show checkI (ps, ks, bs) = insideN (d, l, ps, ks, bs) from ?_))
    rw [insideN, if_neg h]
theorem sizeF_nn (l : List Stk) (h : l.length ≤ 100000) : sizeF l ≤ 100000000 := by
  have := sumN_le l
  have h2 := putSmall_len (l.length : Nat)
  rw [sizeF, layF, List.length_append]
  rw [sumN] at this
  omega
theorem sizeI_nn {n : Inn} (h : IPre n) : sizeI n ≤ 600000 := by
  rw [sizeI]; split
  · rename_i hw; exact layI_len h hw
  · omega
theorem fNSize : FnOk Try.prog 30 := ⟨_, Try.func30, by decide, rfl⟩
theorem pNSize : PSound Try.prog 30 sNSize := by
  refine psound (T := tab) (S := (spOf [(49, iContent), (54, sLSize.spec (lsOf [])), (55, sISize.spec (lsOf []))])) (keep := k30) (by kernel_rfl) tabOk (spCons (.inl ⟨pContent, fContent⟩) (spCons (pOk pLSize fLSize (by decide) lsNil) (spCons (pOk pISize fISize (by decide) lsNil) spNil))) (by kernel_rfl) Try.func30 (by kernel_rfl) (by decide) fun xs hg hp => ?_
  obtain ⟨⟨d, l, ps, ks, bs⟩, ⟨⟩⟩ := xs
  clear hg
  change Int at d
  change List Stk at l
  change List (List UInt8) at ps
  change List Int at ks
  change List (List Msg) at bs
  change NPre (d, l, ps, ks, bs) at hp
  have hpl := hp.l
  have hpi := hp.i
  have hpp := hpi.p
  have hpk := hpi.k
  have hpb := hpi.b
  dsimp only at hpl hpi hpp hpk hpb
  have hs1 := sizeF_nn l hpl
  have hs2 := sizeI_nn hpi
  show vfun tab _ k30 Try.f30 [.agg [.i .i64 d, .sl StT l, .sl .str ps, .sl (.int .i64) ks, .sl (.slice MsgT) bs]] [] _
  refine Ev.out ?_
  repeat' (first | ((with_reducible refine Ev.mk ?_); conv => whnf) | (with_reducible refine And.intro ?_ ?_) | (intro h))
  all_goals (try simp only [decide_eq_true_eq, decide_eq_false_iff_not, beq_iff_eq, bne_iff_ne, beq_eq_false_iff_ne, bne_eq_false_iff_eq, Int.toNat_natCast, ge_iff_le, gt_iff_lt, Bool.not_eq_true', Bool.not_eq_false', Int.not_lt, Int.not_le, ne_eq] at *)
  all_goals (try dsimp only [Ty.den, Ty.dflt, NdT, SsT, sLSize, sISize] at *)
  all_goals (try simp only [eq4, ne4, eq3, ne3, eq2, ne2, Prod.eta, List.length_cons, List.length_nil, List.length_append, Nat.zero_add] at *)
  all_goals (try simp (disch := omega) only [wrap64] at *)
  all_goals try first | exact leafDraw (by kernel_rfl) | exact Leaf.mk trivial | (refine Leaf.mk ?_; omega) | (refine Leaf.mk ?_; unfold maxLen; omega)
  all_goals first
    | exact Leaf.mk hpl
    | exact Leaf.mk hpi
    | (refine Leaf.mk (ret1 (show (1 : Int) + (sizeF l : Nat) = sizeN (d, l, ps, ks, bs) from ?_)); rw [sizeN, if_pos h])
    | (refine Leaf.mk (ret1 (show (1 : Int) + (sizeI (ps, ks, bs) : Nat) = sizeN (d, l, ps, ks, bs) from ?_)); rw [sizeN, if_neg h])
    | skip
theorem checkN_rng {n : Nod} (h : n.1 < 0 ∨ 40 < n.1) : checkN n = 9 := by rw [checkN, if_pos h]
theorem checkN_form {n : Nod} (h : ¬ (n.1 < 0 ∨ 40 < n.1)) (h1 : emptyN n = false) : checkN n = 4 := by rw [checkN, if_neg h, if_neg (by rw [h1]; simp)]
theorem checkN_in {n : Nod} (h : ¬ (n.1 < 0 ∨ 40 < n.1)) (h1 : emptyN n = true) (h2 : ¬ insideN n = 0) : checkN n = insideN n := by rw [checkN, if_neg h, if_pos h1, if_neg h2]
theorem checkN_big {n : Nod} (h : ¬ (n.1 < 0 ∨ 40 < n.1)) (h1 : emptyN n = true) (h2 : insideN n = 0) : checkN n = if 1016 < sizeN n then 5 else 0 := by rw [checkN, if_neg h, if_pos h1, if_pos h2]
theorem fNCheck : FnOk Try.prog 27 := ⟨_, Try.func27, by decide, rfl⟩
theorem pNCheck : PSound Try.prog 27 sNCheck := by
  refine psound (T := tab) (S := (spOf [(47, sEmptyN.spec (lsOf [])), (48, sInsideN.spec (lsOf [])), (30, sNSize.spec (lsOf []))])) (keep := k27) (by kernel_rfl) tabOk (spCons (pOk pEmptyN fEmptyN (by decide) lsNil) (spCons (pOk pInsideN fInsideN (by decide) lsNil) (spCons (pOk pNSize fNSize (by decide) lsNil) spNil))) (by kernel_rfl) Try.func27 (by kernel_rfl) (by decide) fun xs hg hp => ?_
  obtain ⟨⟨d, l, ps, ks, bs⟩, ⟨⟩⟩ := xs
  clear hg
  change Int at d
  change List Stk at l
  change List (List UInt8) at ps
  change List Int at ks
  change List (List Msg) at bs
  change NPre (d, l, ps, ks, bs) at hp
  have hpl := hp.l
  have hpi := hp.i
  have hpp := hpi.p
  have hpk := hpi.k
  have hpb := hpi.b
  dsimp only at hpl hpi hpp hpk hpb
  show vfun tab _ k27 Try.f27 [.agg [.i .i64 d, .sl StT l, .sl .str ps, .sl (.int .i64) ks, .sl (.slice MsgT) bs]] [] _
  refine Ev.out ?_
  repeat' (first | ((with_reducible refine Ev.mk ?_); conv => whnf) | (with_reducible refine And.intro ?_ ?_) | (intro h))
  all_goals (try simp only [decide_eq_true_eq, decide_eq_false_iff_not, beq_iff_eq, bne_iff_ne, beq_eq_false_iff_ne, bne_eq_false_iff_eq, Int.toNat_natCast, ge_iff_le, gt_iff_lt, Bool.not_eq_true', Bool.not_eq_false', Int.not_lt, Int.not_le, ne_eq] at *)
  all_goals (try dsimp only [Ty.den, Ty.dflt, NdT, SsT, sEmptyN, sInsideN, sNSize] at *)
  all_goals (try simp only [eq4, ne4, eq3, ne3, eq2, ne2, Prod.eta, List.length_cons, List.length_nil, List.length_append, Nat.zero_add] at *)
  all_goals (try simp (disch := omega) only [wrap64] at *)
  all_goals try first | exact leafDraw (by kernel_rfl) | exact Leaf.mk trivial | (refine Leaf.mk ?_; omega) | (refine Leaf.mk ?_; unfold maxLen; omega)
  all_goals try exact Leaf.mk hp
  · exact Leaf.mk (ret1 (checkN_rng (n := (d, l, ps, ks, bs)) (.inl h)).symm)
  · exact Leaf.mk (ret1 (checkN_rng (n := (d, l, ps, ks, bs)) (.inr ‹40 < d›)).symm)
  all_goals have hr : ¬ (d < 0 ∨ 40 < d) := by omega
  all_goals first
    | exact Leaf.mk (ret1 (checkN_form (n := (d, l, ps, ks, bs)) hr ‹_›).symm)
    | exact Leaf.mk (ret1 (checkN_in (n := (d, l, ps, ks, bs)) hr ‹_› ‹_›).symm)
    | (refine Leaf.mk (ret1 (show (5 : Int) = checkN (d, l, ps, ks, bs) from ?_)); rw [checkN_big (n := (d, l, ps, ks, bs)) hr ‹_› ‹_›, if_pos ‹_›])
    | (refine Leaf.mk (ret1 (show (0 : Int) = checkN (d, l, ps, ks, bs) from ?_)); rw [checkN_big (n := (d, l, ps, ks, bs)) hr ‹_› ‹_›, if_neg (by omega)])
    | skip
end Go.Proofs.Ytkmfjlfejdoehaa

set_option linter.unusedVariables false
set_option linter.unusedSimpArgs false
set_option maxRecDepth 8000
set_option maxHeartbeats 4000000
namespace Go.Proofs.Ytkmfjlfejdoehaa
open Go.Eng
def layN (n : Nod) : List Int := n.1 :: (if n.1 = 0 then layF n.2.1 else layI n.2.2)
def putN (n : Nod) : List Int × Int := if checkN n = 0 then (layN n, 0) else ([], checkN n)
def sNPut : PSpec := ⟨[.d NdT], [⟨false, [.o 5 (.int .u8)]⟩, ⟨false, [.d (.int .i64)]⟩], fun x => NPre x.1, fun x => (((putN x.1).1, ()), ((putN x.1).2, ()), ())⟩
structure OkN (n : Nod) : Prop where
  lo : 0 ≤ n.1
  hi : n.1 ≤ 40
  e : emptyN n = true
  i : insideN n = 0
  s : sizeN n ≤ 1016
theorem okN {n : Nod} (h : checkN n = 0) : OkN n := by
  rw [checkN] at h
  split at h
  · exact absurd h (by decide)
  rename_i h1
  split at h
  case isFalse => exact absurd h (by decide)
  rename_i h2
  split at h
  case isFalse h3 => exact absurd h h3
  rename_i h3
  split at h
  · exact absurd h (by decide)
  exact ⟨by omega, by omega, h2, h3, by omega⟩
theorem checkL_sz {l : List Stk} (h : checkL l = 0) : (layF l).length ≤ 1016 := by
  unfold checkL at h
  split at h
  · split at h
    · exact absurd h (by decide)
    · rw [sizeF] at *; omega
  · rename_i h1; exact absurd h h1
theorem OkN.leaf {n : Nod} (h : OkN n) (h0 : n.1 = 0) : checkL n.2.1 = 0 ∧ putL n.2.1 = (layF n.2.1, 0) ∧ (layF n.2.1).length ≤ 1016 := by
  have h1 := h.i
  rw [insideN, if_pos h0] at h1
  exact ⟨h1, by rw [putL, if_pos h1], checkL_sz h1⟩
theorem OkN.inner {n : Nod} (h : OkN n) (h0 : ¬ n.1 = 0) : checkI n.2.2 = 0 ∧ putI n.2.2 = (layI n.2.2, 0) ∧ (layI n.2.2).length ≤ 1016 := by
  have h1 := h.i
  rw [insideN, if_neg h0] at h1
  exact ⟨h1, by rw [putI, if_pos h1], (valI h1).sz⟩
theorem wrap8 {n : Int} (h0 : 0 ≤ n) (h1 : n ≤ 255) : IntKind.u8.wrap n = n := by rw [wrapU8]; omega
theorem fNPut : FnOk Try.prog 28 := ⟨_, Try.func28, by decide, rfl⟩
theorem pNPut : PSound Try.prog 28 sNPut := by
  refine psound (T := tab) (S := (spOf [(27, sNCheck.spec (lsOf [])), (49, iContent), (50, sLPut.spec (lsOf [])), (51, sIPut.spec (lsOf []))])) (keep := k28) (by kernel_rfl) tabOk (spCons (pOk pNCheck fNCheck (by decide) lsNil) (spCons (.inl ⟨pContent, fContent⟩) (spCons (pOk pLPut fLPut (by decide) lsNil) (spCons (pOk pIPut fIPut (by decide) lsNil) spNil)))) (by kernel_rfl) Try.func28 (by kernel_rfl) (by decide) fun xs hg hp => ?_
  obtain ⟨⟨d, l, ps, ks, bs⟩, ⟨⟩⟩ := xs
  clear hg
  change Int at d
  change List Stk at l
  change List (List UInt8) at ps
  change List Int at ks
  change List (List Msg) at bs
  change NPre (d, l, ps, ks, bs) at hp
  have hpl := hp.l
  have hpi := hp.i
  have hpp := hpi.p
  have hpk := hpi.k
  have hpb := hpi.b
  dsimp only at hpl hpi hpp hpk hpb
  show vfun tab _ k28 Try.f28 [.agg [.i .i64 d, .sl StT l, .sl .str ps, .sl (.int .i64) ks, .sl (.slice MsgT) bs]] [] _
  refine Ev.out ?_
  repeat' (first | ((with_reducible refine Ev.mk ?_); conv => whnf) | (with_reducible refine And.intro ?_ ?_) | (intro h))
  all_goals (try simp only [decide_eq_true_eq, decide_eq_false_iff_not, beq_iff_eq, bne_iff_ne, beq_eq_false_iff_ne, bne_eq_false_iff_eq, Int.toNat_natCast, ge_iff_le, gt_iff_lt, Bool.not_eq_true', Bool.not_eq_false', Int.not_lt, Int.not_le, ne_eq] at *)
  all_goals (try dsimp only [Ty.den, Ty.dflt, NdT, SsT, sNCheck, sLPut, sIPut] at *)
  all_goals (try simp only [eq4, ne4, eq3, ne3, eq2, ne2, Prod.eta, List.length_cons, List.length_nil, List.length_append, Nat.zero_add] at *)
  all_goals (try simp (disch := omega) only [wrap64] at *)
  all_goals try first | exact leafDraw (by kernel_rfl) | exact Leaf.mk trivial | (refine Leaf.mk ?_; omega) | (refine Leaf.mk ?_; unfold maxLen; omega)
  · refine Leaf.mk (retPi (u := ([], checkN (d, l, ps, ks, bs))) (v := putN (d, l, ps, ks, bs)) ?_)
    rw [putN, if_neg ‹_›]
  all_goals
    have hc : checkN (d, l, ps, ks, bs) = 0 := ‹_›
    have ok := okN hc
    have hd0 := ok.lo
    have hd1 := ok.hi
    dsimp only at hd0 hd1
  all_goals try
    have q9 := ok.leaf (show d = 0 by assumption)
    obtain ⟨q1, q2, q3⟩ := q9
    dsimp only at q1 q2 q3
    simp only [q2] at *
  all_goals try
    have q9 := ok.inner (show ¬ d = 0 by assumption)
    obtain ⟨q1, q2, q3⟩ := q9
    dsimp only at q1 q2 q3
    simp only [q2] at *
  all_goals first
    | (refine Leaf.mk ?_; omega)
    | (refine Leaf.mk ?_; unfold maxLen; omega)
    | (refine Leaf.mk (retPi (u := ([IntKind.u8.wrap d] ++ layF l, 0)) (v := putN (d, l, ps, ks, bs)) ?_)
       rw [putN, if_pos hc, layN, if_pos (show d = 0 from ‹_›), wrap8 hd0 (by omega)]; rfl)
    | (refine Leaf.mk (retPi (u := ([IntKind.u8.wrap d] ++ layI (ps, ks, bs), 0)) (v := putN (d, l, ps, ks, bs)) ?_)
       rw [putN, if_pos hc, layN, if_neg (show ¬ d = 0 from ‹_›), wrap8 hd0 (by omega)]; rfl)
    | skip
end Go.Proofs.Ytkmfjlfejdoehaa

set_option linter.unusedVariables false
set_option linter.unusedSimpArgs false
set_option maxRecDepth 8000
set_option maxHeartbeats 4000000
namespace Go.Proofs.Ytkmfjlfejdoehaa
open Go.Eng
def readN (k : Int) (q : List Int) : Nod := if k = 0 then (0, (getL q).1, inn0) else (k, [], (getI q).1)
def errN (k : Int) (q : List Int) : Int := if k = 0 then (getL q).2 else (getI q).2
def getN : List Int → Nod × Int
  | [] => (nod0, 4)
  | k :: q => if errN k q = 0 ∧ checkN (readN k q) = 0 then (readN k q, 0) else (nod0, 4)
theorem getL_cases (b : List Int) : (getL b = ([], 4)) ∨ (checkL (getL b).1 = 0 ∧ layF (getL b).1 = b ∧ (getL b).2 = 0) := by
  rw [getL]; split
  · rename_i h; exact .inr ⟨h.1, h.2, rfl⟩
  · exact .inl rfl
theorem getI_cases (b : List Int) : (getI b = (inn0, 4)) ∨ (checkI (getI b).1 = 0 ∧ nnI (getI b).1 ∧ layI (getI b).1 = b ∧ (getI b).2 = 0) := by
  rw [getI]; split
  · rename_i h; exact .inr ⟨h.1, h.2.1, h.2.2, rfl⟩
  · exact .inl rfl
theorem isB_layN {n : Nod} (h : checkN n = 0) (hn : nnI n.2.2) : isB (layN n) := by
  have ok := okN h
  intro x hx
  rw [layN] at hx
  rcases List.mem_cons.1 hx with rfl | hx
  · have := ok.lo; have := ok.hi; omega
  · split at hx
    · exact isB_layF _ x hx
    · rename_i h0; exact isB_layI (valI (ok.inner h0).1).w1 hn x hx
theorem getN_no {k : Int} {q : List Int} (h : errN k q = 0 → ¬ checkN (readN k q) = 0) : getN (k :: q) = (nod0, 4) := by rw [getN, if_neg fun hc => h hc.1 hc.2]
theorem getN_yes {k : Int} {q : List Int} (h : errN k q = 0) (h1 : checkN (readN k q) = 0) : getN (k :: q) = (readN k q, 0) := by rw [getN, if_pos ⟨h, h1⟩]
theorem getI_pre (b : List Int) : IPre (getI b).1 := by
  rcases getI_cases b with h1 | ⟨h1, h2, h3, h4⟩
  · rw [h1]; exact ⟨by simp, fun p hp => by simp at hp, by simp, by simp, by simp⟩
  · have v := valI h1
    have := v.k6
    have := v.w1
    have := v.w2
    have h5 := kfrom_ge v.w1 v.ms
    have h6 := v.sz
    rw [layI_eq v.w1, List.length_append, List.length_append] at h6
    exact ⟨by omega, fun p hp => by have := v.ps p hp; omega, by omega, by omega, by omega⟩
theorem layF_ge (l : List Stk) : l.length ≤ (layF l).length := by
  have := len_sum l
  rw [sumN] at this
  rw [layF, List.length_append]; omega
theorem readN_pre (k : Int) (q : List Int) : NPre (readN k q) := by
  rw [readN]; split
  · refine ⟨?_, ⟨by simp, fun p hp => by simp at hp, by simp, by simp, by simp⟩⟩
    dsimp only
    rcases getL_cases q with h1 | ⟨h1, h2, h3⟩
    · rw [h1]; simp
    · have := layF_ge (getL q).1
      have := checkL_sz h1
      omega
  · exact ⟨by simp, getI_pre q⟩
def sNGet : PSpec := ⟨[.d BT], [⟨true, [.d NdT]⟩, ⟨false, [.d (.int .i64)]⟩], fun x => List.length (α := Int) x.1 ≤ 5000, fun x => (((getN x.1).1, ()), ((getN x.1).2, ()), ())⟩
theorem retGn {u v : Nod × Int} (h : u = v) : (some ((u.1, ()), (u.2, ()), ()) : Option ((Nod × Unit) × (Int × Unit) × Unit)) = some ((v.1, ()), (v.2, ()), ()) := by rw [h]
theorem fNGet : FnOk Try.prog 29 := ⟨_, Try.func29, by decide, rfl⟩
theorem pNGet : PSound Try.prog 29 sNGet := by
  refine psound (T := tab) (S := (spOf [(52, sLGet.spec (lsOf [])), (53, sIGet.spec (lsOf [])), (27, sNCheck.spec (lsOf []))])) (keep := k29) (by kernel_rfl) tabOk (spCons (pOk pLGet fLGet (by decide) lsNil) (spCons (pOk pIGet fIGet (by decide) lsNil) (spCons (pOk pNCheck fNCheck (by decide) lsNil) spNil))) (by kernel_rfl) Try.func29 (by kernel_rfl) (by decide) fun xs hg hp => ?_
  obtain ⟨b, ⟨⟩⟩ := xs
  obtain ⟨⟨-, hx⟩, -⟩ := hg
  change List Int at b
  change b.length ≤ 5000 at hp
  have hB : isB b := isB_good hx
  clear hx
  show vfun tab _ k29 Try.f29 [.sl (.int .u8) b] [] _
  refine Ev.out ?_
  repeat' (first | ((with_reducible refine Ev.mk ?_); conv => whnf) | (with_reducible refine And.intro ?_ ?_) | (intro h))
  all_goals (try simp only [decide_eq_true_eq, decide_eq_false_iff_not, beq_iff_eq, bne_iff_ne, beq_eq_false_iff_ne, bne_eq_false_iff_eq, Int.toNat_natCast, ge_iff_le, gt_iff_lt, Bool.not_eq_true', Bool.not_eq_false', Int.not_lt, Int.not_le, ne_eq] at *)
  all_goals (try dsimp only [Ty.den, Ty.dflt, NdT, SsT, InT, sLGet, sIGet, sNCheck] at *)
  all_goals (try simp only [eq4, ne4, eq3, ne3, eq2, ne2, Prod.eta, List.length_cons, List.length_nil, List.length_append, Nat.zero_add] at *)
  all_goals (try simp (disch := omega) only [wrap64] at *)
  all_goals try first | exact leafDraw (by kernel_rfl) | exact Leaf.mk trivial | (refine Leaf.mk ?_; omega) | (refine Leaf.mk ?_; unfold maxLen; omega)
  · obtain rfl : b = [] := List.eq_nil_of_length_eq_zero (by omega)
    exact Leaf.mk rfl
  all_goals
    obtain ⟨k, q, rfl⟩ : ∃ k q, b = k :: q := by
      cases b with
      | nil => simp at *
      | cons k q => exact ⟨k, q, rfl⟩
    have hk := hB k List.mem_cons_self
    have e1 : IntKind.i64.wrap ((k :: q).getD (Int.toNat 0) 0) = k := wrap64 (n := k) (by omega)
    have e2 : List.drop (Int.toNat 1) (List.take (k :: q).length (k :: q)) = q := by simp
    have hql : q.length + 1 ≤ 5000 := hp
    have hnp := readN_pre k q
    simp only [e1, e2] at *
  all_goals try
    have h0 : k = 0 := by assumption
    subst h0
    have hr : readN 0 q = (0, (getL q).1, inn0) := by rw [readN, if_pos rfl]
    have he : errN 0 q = (getL q).2 := by rw [errN, if_pos rfl]
    rw [hr] at hnp
  all_goals try
    have h0 : ¬ k = 0 := by assumption
    have hr : readN k q = (k, [], (getI q).1) := by rw [readN, if_neg h0]
    have he : errN k q = (getI q).2 := by rw [errN, if_neg h0]
    rw [hr] at hnp
  · exact Leaf.mk (show List.length (α := Int) q ≤ 50000 by omega)
  · refine Leaf.mk (retGn (u := (nod0, 4)) (v := getN (0 :: q)) (getN_no (fun h9 _ => ?_)).symm)
    rw [he] at h9; exact ‹¬ (getL q).2 = 0› h9
  · exact Leaf.mk hnp
  · refine Leaf.mk (retGn (u := (nod0, 4)) (v := getN (0 :: q)) (getN_no (fun _ h9 => ?_)).symm)
    rw [hr] at h9; exact ‹¬ checkN _ = 0› h9
  · refine Leaf.mk (retGn (u := ((0, (getL q).1, inn0), 0)) (v := getN (0 :: q)) ?_)
    rw [getN_yes (he.trans ‹(getL q).2 = 0›) (by rw [hr]; assumption), hr]
  · exact Leaf.mk (show List.length (α := Int) q ≤ 5000 by omega)
  · refine Leaf.mk (retGn (u := (nod0, 4)) (v := getN (k :: q)) (getN_no (fun h9 _ => ?_)).symm)
    rw [he] at h9; exact ‹¬ (getI q).2 = 0› h9
  · exact Leaf.mk hnp
  · refine Leaf.mk (retGn (u := (nod0, 4)) (v := getN (k :: q)) (getN_no (fun _ h9 => ?_)).symm)
    rw [hr] at h9; exact ‹¬ checkN _ = 0› h9
  · refine Leaf.mk (retGn (u := ((k, [], (getI q).1), 0)) (v := getN (k :: q)) ?_)
    rw [getN_yes (he.trans ‹(getI q).2 = 0›) (by rw [hr]; assumption), hr]
end Go.Proofs.Ytkmfjlfejdoehaa
