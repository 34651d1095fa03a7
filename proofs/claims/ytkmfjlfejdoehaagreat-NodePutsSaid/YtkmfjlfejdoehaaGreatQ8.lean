import Derived.Test.YtkmfjlfejdoehaaGreatQ7
import Derived.Test.YtkmfjlfejdoehaaGreatEng5
/- Texts, one behind the other. -/
set_option linter.unusedVariables false
set_option linter.unusedSimpArgs false
set_option maxRecDepth 8000
namespace Go.Proofs.YtkmfjlfejdoehaaGreat
open Go.Eng
theorem rdSmall_put {n : Int} (h0 : 0 ≤ n) (h1 : n ≤ 1099511627776) (r : List Int) : rdSmall (putSmall n ++ r) 0 = (n, r, 0) := by
  have hg := getSmall_put (n := n) (by omega) r
  rw [rdSmall, if_neg (by simp), hg]
  dsimp only
  rw [if_neg (by simp), if_neg (by omega), Int.toNat_natCast, List.drop_left']
  rfl
theorem rdText_put {k : List UInt8} {m : Int} (h0 : (k.length : Int) ≤ m) (r : List Int) : rdText (putText k ++ r) 0 m = (k, r, 0) := by
  have hg := getText_put k r
  rw [rdText, if_neg (by simp), hg]
  dsimp only
  rw [if_neg (by simp), if_neg (by split <;> omega), Int.toNat_natCast, List.drop_left']
  rfl
def putV (v : Ver) : List Int := putSmall v.1 ++ (putSmall v.2.1 ++ ((if v.2.2.1 = true then 1 else 0) :: putText v.2.2.2))
def putS (s : Stk) : List Int := putText s.1 ++ (putSmall s.2.length ++ s.2.flatMap putV)
structure VerOk (v : Ver) : Prop where
  val : v.2.2.2.length ≤ 24
  gone : v.2.2.1 = true → v.2.2.2 = []
  txn : 0 ≤ v.1 ∧ v.1 ≤ 1099511627776
  ts : 0 ≤ v.2.1 ∧ v.2.1 ≤ 1099511627776
theorem verC_ok {v : Ver} : verC v = 0 ↔ VerOk v := by
  unfold verC inB
  constructor
  · intro h
    split at h
    · omega
    split at h
    · omega
    split at h
    · rename_i h1 h2 h3
      refine ⟨by omega, fun hg => ?_, of_decide_eq_true h3.1, of_decide_eq_true h3.2⟩
      by_cases hv : v.2.2.2 = []
      · exact hv
      · exact absurd ⟨hg, hv⟩ h2
    · omega
  · intro h
    rw [if_neg (by have := h.val; omega), if_neg (fun hc => hc.2 (h.gone hc.1)), if_pos ⟨decide_eq_true h.txn, decide_eq_true h.ts⟩]
structure StkOk (s : Stk) : Prop where
  key : s.1.length ≤ 16
  len : s.2.length ≤ 8
  all : ∀ v ∈ s.2, VerOk v
  ord : ordered s.2 = true
theorem firstBad_iff (xs : List Ver) : firstBad xs = 0 ↔ ∀ v ∈ xs, VerOk v := by
  induction xs with
  | nil => simp [firstBad]
  | cons x r ih =>
    rw [firstBad]
    split
    · rename_i h
      rw [ih]
      simp [verC_ok.1 h]
    · rename_i h
      constructor
      · intro hc; exact absurd hc h
      · intro hc; exact absurd (verC_ok.2 (hc x (by simp))) h
theorem check_ok {s : Stk} : check s = 0 ↔ StkOk s := by
  unfold check
  constructor
  · intro h
    split at h
    · omega
    split at h
    · omega
    split at h
    · rename_i h1 h2 h3
      split at h
      · rename_i h4; exact ⟨by omega, by omega, (firstBad_iff _).1 h3, h4⟩
      · omega
    · rename_i h3; exact absurd h h3
  · intro h
    rw [if_neg (by have := h.key; omega), if_neg (by have := h.len; omega), if_pos ((firstBad_iff _).2 h.all), if_pos h.ord]
def takeL : Nat → Int → Int → List Int → Int → List Ver → List Int × Int × List Ver
  | 0, _, _, b, e, acc => (b, e, acc)
  | f + 1, n, i, b, e, acc =>
    if (i < n ∧ i ≤ 8) ∧ e = 0 then
      let t := rdSmall b e
      let u := rdSmall t.2.1 t.2.2
      let g : Bool × List Int := if u.2.2 = 0 ∧ 0 < u.2.1.length then (decide (u.2.1.getD 0 0 = 1), u.2.1.drop 1) else (false, u.2.1)
      let w := rdText g.2 u.2.2 24
      takeL f n (i + 1) w.2.1 w.2.2 (acc ++ [(t.1, u.1, g.1, w.1)])
    else (b, e, acc)
def takeF (b : List Int) (e : Int) : (List Int × Int) × Stk :=
  let t := rdText b e 16
  let n := rdSmall t.2.1 t.2.2
  let l := takeL 10 n.1 0 n.2.1 n.2.2 []
  ((l.1, l.2.1), (t.1, l.2.2))
theorem takeL_stop {n : Int} {i : Int} (f : Nat) (b : List Int) (e : Int) (acc : List Ver) (h : ¬ ((i < n ∧ i ≤ 8) ∧ e = 0)) : takeL f n i b e acc = (b, e, acc) := by
  cases f with
  | zero => rfl
  | succ f => rw [takeL, if_neg h]
theorem takeL_put (r : List Int) : ∀ (vs : List Ver) (f : Nat) (n i : Int) (acc : List Ver), (∀ v ∈ vs, VerOk v) → n = i + vs.length → n ≤ 8 → vs.length ≤ f → takeL f n i (vs.flatMap putV ++ r) 0 acc = (r, 0, acc ++ vs)
  | [], f, n, i, acc, _, hn, _, _ => by
    rw [takeL_stop _ _ _ _ (by simp at hn; omega)]; simp
  | v :: vs, 0, _, _, _, _, _, _, h => by simp at h
  | v :: vs, f + 1, n, i, acc, hv, hn, h8, hf => by
    have ok := hv v (by simp)
    simp only [List.length_cons] at hn hf
    rw [takeL, if_pos (by omega)]
    have hb : List.flatMap putV (v :: vs) ++ r = putSmall v.1 ++ (putSmall v.2.1 ++ ((if v.2.2.1 = true then 1 else 0) :: (putText v.2.2.2 ++ (vs.flatMap putV ++ r)))) := by
      simp [putV]
    rw [hb, rdSmall_put ok.txn.1 ok.txn.2]
    dsimp only
    rw [rdSmall_put ok.ts.1 ok.ts.2]
    dsimp only
    rw [if_pos ⟨rfl, by simp⟩]
    dsimp only
    rw [List.drop_one, List.tail_cons, rdText_put (by have := ok.val; omega)]
    dsimp only
    rw [takeL_put r vs f n (i + 1) _ (fun x hx => hv x (by simp [hx])) (by omega) h8 (by omega)]
    have hg : decide (((if v.2.2.1 = true then (1 : Int) else 0) :: (putText v.2.2.2 ++ (vs.flatMap putV ++ r))).getD 0 0 = 1) = v.2.2.1 := by
      cases v.2.2.1 <;> simp
    rw [hg, List.append_assoc]; rfl
theorem takeF_put {s : Stk} (h : check s = 0) (r : List Int) : takeF (putS s ++ r) 0 = ((r, 0), s) := by
  have ok := check_ok.1 h
  have hl := ok.len
  unfold takeF putS
  rw [List.append_assoc, rdText_put (by have := ok.key; omega)]
  dsimp only
  rw [List.append_assoc, rdSmall_put (by omega) (by omega)]
  dsimp only
  rw [takeL_put r s.2 10 s.2.length 0 [] ok.all (by omega) (by omega) (by omega)]
  rfl
def getS (b : List Int) : Stk × Int := if check (takeF b 0).2 = 0 ∧ putS (takeF b 0).2 = b then ((takeF b 0).2, 0) else (([], []), 4)
theorem getS_put {s : Stk} {b : List Int} (h : check s = 0) (hb : putS s = b) : getS b = (s, 0) := by
  subst hb
  have := takeF_put h []
  rw [List.append_nil] at this
  unfold getS
  rw [this, if_pos ⟨h, rfl⟩]
theorem getS_not {b : List Int} (h : ∀ s, check s = 0 → putS s ≠ b) : getS b = (([], []), 4) := by
  unfold getS
  rw [if_neg (fun hc => h _ hc.1 hc.2)]
theorem flat_len {α : Type} (f : Ver → List α) (m : Nat) : ∀ (l : List Ver), (∀ v ∈ l, (f v).length ≤ m) → (l.flatMap f).length ≤ l.length * m
  | [], _ => by simp
  | v :: r, h => by
    have h1 := h v (by simp)
    have h2 := flat_len f m r (fun x hx => h x (by simp [hx]))
    simp only [List.flatMap_cons, List.length_append, List.length_cons, Nat.add_mul, Nat.one_mul]
    omega
theorem putV_len {v : Ver} (h : VerOk v) : (putV v).length ≤ 69 := by
  have h1 := putSmall_len v.1
  have h2 := putSmall_len v.2.1
  have h3 := putText_len v.2.2.2
  have h4 := h.val
  simp only [putV, List.length_append, List.length_cons]; omega
theorem putS_len {s : Stk} (h : check s = 0) : (putS s).length ≤ 595 := by
  have ok := check_ok.1 h
  have h1 := putText_len s.1
  have h2 := putSmall_len s.2.length
  have h3 := flat_len putV 69 s.2 (fun v hv => putV_len (ok.all v hv))
  have := ok.key; have := ok.len
  have h4 : s.2.length * 69 ≤ 552 := by omega
  simp only [putS, List.length_append]; omega
theorem isB_V (v : Ver) : isB (putV v) := by
  refine isB_append (isB_small _) (isB_append (isB_small _) fun x hx => ?_)
  rcases List.mem_cons.1 hx with rfl | hx
  · split <;> omega
  · exact isB_put _ x hx
theorem isB_flat (l : List Ver) : isB (l.flatMap putV) := fun x hx => by
  obtain ⟨v, _, hv⟩ := List.mem_flatMap.1 hx
  exact isB_V v x hv
theorem isB_S (s : Stk) : isB (putS s) := isB_append (isB_put _) (isB_append (isB_small _) (isB_flat _))
end Go.Proofs.YtkmfjlfejdoehaaGreat

set_option linter.unusedVariables false
set_option linter.unusedSimpArgs false
set_option maxRecDepth 8000
set_option maxHeartbeats 4000000
namespace Go.Proofs.YtkmfjlfejdoehaaGreat
open Go.Eng
theorem wrapu {n : Int} (h : 0 ≤ n ∧ n ≤ 1099511627776) : IntKind.u64.wrap n = n := by rw [wrapU64]; omega
def putR11 (s : Stk) : List Int × Int := if check s = 0 then (putS s, 0) else ([], check s)
def sSPut : PSpec := ⟨[.d StT], [⟨false, [.d BT]⟩, ⟨false, [.d (.int .i64)]⟩], fun _ => True, fun x => (((putR11 x.1).1, ()), ((putR11 x.1).2, ()), ())⟩
theorem retB {u v : List Int × Int} (h : u = v) : (some ((u.1, ()), (u.2, ()), ()) : Option ((List Int × Unit) × (Int × Unit) × Unit)) = some ((v.1, ()), (v.2, ()), ()) := by rw [h]
theorem fSPut : FnOk Tryz.prog 157 := ⟨_, Tryz.func157, by decide, rfl⟩
theorem pSPut : PSound Tryz.prog 157 sSPut := by
  refine psound (T := tab) (S := (spOf [(84, sCheck.spec (lsOf [])), (203, sPutText.spec (lsOf [])), (153, sPutSmall.spec (lsOf [])), (205, sFlag.spec (lsOf [])), (204, sConcatB.spec (lsOf []))])) (keep := k157) (by kernel_rfl) tabOk (spCons (pOk pCheck fCheck (by decide) lsNil) (spCons (pOk pPutText fPutText (by decide) lsNil) (spCons (pOk pPutSmall fPutSmall (by decide) lsNil) (spCons (pOk pFlag fFlag (by decide) lsNil) (spCons (pOk pConcatB fConcatB (by decide) lsNil) spNil))))) (by kernel_rfl) Tryz.func157 (by kernel_rfl) (by decide) fun xs hg hp => ?_
  obtain ⟨⟨key, xs⟩, ⟨⟩⟩ := xs
  change List UInt8 at key
  change List Ver at xs
  clear hp hg
  show vfun tab _ k157 Tryz.f157 [.agg [.s key, .sl VerT xs]] [] _
  refine Ev.out ?_
  repeat' (first | ((with_reducible refine Ev.mk ?_); conv => whnf) | (with_reducible refine And.intro ?_ ?_) | (intro h))
  all_goals (try simp only [decide_eq_true_eq, decide_eq_false_iff_not, beq_iff_eq, bne_iff_ne, beq_eq_false_iff_ne, bne_eq_false_iff_eq, Int.toNat_natCast, ge_iff_le, gt_iff_lt, Bool.not_eq_true', Bool.not_eq_false', Int.not_lt, Int.not_le, ne_eq] at *)
  all_goals (try dsimp only [Ty.den, Ty.dflt, VerT, sCheck, sPutText, sPutSmall] at *)
  all_goals (try simp only [eq4, ne4, eq3, ne3, eq2, ne2, Prod.eta, List.length_cons, List.length_nil, List.length_append, Nat.zero_add] at *)
  all_goals (try simp (disch := omega) only [wrap64] at *)
  all_goals try first | exact leafDraw (by kernel_rfl) | exact Leaf.mk trivial | (refine Leaf.mk ?_; omega) | (refine Leaf.mk ?_; unfold maxLen; omega)
  · exact Leaf.mk (retB (u := ([], check (key, xs))) (if_neg h).symm)
  all_goals
    have ok := check_ok.1 ‹check (key, xs) = 0›
    have hk := ok.key
    have hl := ok.len
    dsimp only at hk hl
    have h1 := putText_len key
    have h2 := putSmall_len xs.length
  · exact Leaf.mk (show key.length ≤ 100000 by omega)
  all_goals rw [wrapu (by omega)]
  · exact Leaf.mk (by omega)
  · exact Leaf.mk (by unfold maxLen; omega)
  have hS : putR11 (key, xs) = (putS (key, xs), 0) := if_pos ‹check (key, xs) = 0›
  have hva : ∀ i, i < xs.length → VerOk (xs.getD i ver0) := fun i hi => ok.all _ (getD_mem ver0 hi)
  refine LoopVC.weak [(.slot 5, .frz)] (fun i : Nat => [(5, .sl (.int .u8) (putText key ++ putSmall xs.length ++ (xs.take i).flatMap putV)), (25, .i .i64 i)]) (fun _ => []) (fun i => i ≤ xs.length) (fun i => xs.length - i) 0 (Ev.mk ?_)
  (conv => whnf)
  refine ⟨Leaf.mk ?_, Leaf.mk ?_, ?_⟩
  · simp only [List.take_zero, List.flatMap_nil, List.append_nil]; rfl
  · omega
  intro i hi
  have hfl := flat_len putV 69 (xs.take i) (fun v hv => putV_len (ok.all v (List.mem_of_mem_take hv)))
  have htl : (xs.take i).length * 69 ≤ 552 := by rw [List.length_take]; omega
  repeat' (first | ((with_reducible refine Ev.mk ?_); conv => whnf) | (with_reducible refine And.intro ?_ ?_) | (intro h))
  all_goals (try simp only [decide_eq_true_eq, decide_eq_false_iff_not, beq_iff_eq, bne_iff_ne, beq_eq_false_iff_ne, bne_eq_false_iff_eq, Int.toNat_natCast, ge_iff_le, gt_iff_lt, Bool.not_eq_true', Bool.not_eq_false', Int.not_lt, Int.not_le, ne_eq] at *)
  all_goals (try dsimp only [Ty.den, Ty.dflt, VerT, sPutText, sPutSmall, sFlag] at *)
  all_goals (try simp only [eq4, ne4, eq3, ne3, eq2, ne2, Prod.eta, List.length_cons, List.length_nil, List.length_append, Nat.zero_add] at *)
  all_goals (try simp (disch := omega) only [wrap64] at *)
  all_goals try first | exact leafDraw (by kernel_rfl) | exact Leaf.mk trivial | (refine Leaf.mk ?_; omega) | (refine Leaf.mk ?_; unfold maxLen; omega)
  · exact Leaf.mk (show (xs.getD i ver0).2.2.2.length ≤ 100000 by have := (hva i (by omega)).val; omega)
  · have hv := hva i (by omega)
    have hvl := putV_len hv
    have h3 := flat_len putV 69 (xs.take i) (fun v hv => putV_len (ok.all v (List.mem_of_mem_take hv)))
    rw [wrapu (n := (xs.getD i ver0).1) hv.txn, wrapu (n := (xs.getD i ver0).2.1) hv.ts]
    refine Leaf.mk (show 5 ≤ 1000 ∧ (List.flatten (α := Int) _).length ≤ 1000000 from ⟨by omega, ?_⟩)
    simp only [putV, List.length_append, List.length_cons] at hvl
    dsimp only [ver0] at hvl ⊢
    simp only [List.flatten_cons, List.flatten_nil, List.length_append, List.length_cons, List.length_nil]
    omega
  · have hv := hva i (by omega)
    rw [wrapu (n := (xs.getD i ver0).1) hv.txn, wrapu (n := (xs.getD i ver0).2.1) hv.ts]
    refine Leaf.mk ⟨i + 1, ?_, by omega, by omega⟩
    rw [flatMap_at ver0 (by omega)]
    have e : (sConcatB.fn ([putText key ++ putSmall xs.length ++ (xs.take i).flatMap putV, putSmall (xs.getD i ver0).1, putSmall (xs.getD i ver0).2.1, [if (xs.getD i ver0).2.2.1 = true then 1 else 0], putText (xs.getD i ver0).2.2.2], ())).1.1 = putText key ++ putSmall xs.length ++ ((xs.take i).flatMap putV ++ putV (xs.getD i ver0)) := by
      show List.flatten _ = _
      simp [putV]
    exact congrArg (fun l => (⟨[(5, V.sl (.int .u8) l), (23, V.sl VerT xs), (24, V.i .i64 (xs.length : Int)), (25, V.i .i64 ((i : Int) + 1))], []⟩ : St)) e
  · rw [List.take_of_length_le (by omega)]
    refine Leaf.mk (retB (u := (putText key ++ putSmall xs.length ++ xs.flatMap putV, 0)) ?_)
    show _ = putR11 (key, xs)
    rw [hS, putS, List.append_assoc]
end Go.Proofs.YtkmfjlfejdoehaaGreat

set_option linter.unusedVariables false
set_option linter.unusedSimpArgs false
namespace Go.Proofs.YtkmfjlfejdoehaaGreat
open Go.Eng
def rel (me at' : Int) (v : Ver) : Bool := pend me v || okTs at' v
theorem firstZ_not (xs : List Ver) : ∀ j, j < firstZ xs → j < xs.length ∧ (xs.getD j ver0).2.1 ≠ 0 := by
  have gen : ∀ (xs : List Ver) (i : Nat), ∀ j : Nat, j < xs.length → (idxF ordered1 xs i < 0 ∨ (i : Int) + j < idxF ordered1 xs i) → (xs.getD j ver0).2.1 ≠ 0 := by
    intro xs
    induction xs with
    | nil => intro i j h; simp at h
    | cons x r ih =>
      intro i j hj h hc
      rw [idxF] at h
      split at h
      · omega
      · rename_i hx
        cases j with
        | zero => exact hx (by simpa [ordered1] using hc)
        | succ j => exact ih (i + 1) j (by simpa using hj) (by omega) (by simpa using hc)
  intro j hj
  unfold firstZ at hj
  have hp := idxF_pos ordered1 xs 0
  split at hj
  · exact ⟨hj, gen xs 0 j hj (.inl (by assumption))⟩
  · exact ⟨by omega, gen xs 0 j (by omega) (.inr (by omega))⟩
theorem OrdA_mono {xs : List Ver} {n : Nat} (h : OrdA xs n) : ∀ (d i : Nat), i + d < n → (xs.getD i ver0).2.1 ≤ (xs.getD (i + d) ver0).2.1
  | 0, i, _ => Int.le_refl _
  | d + 1, i, hn => by
    have h1 := OrdA_mono h d i (by omega)
    have h2 := h (i + (d + 1)) hn (by omega)
    rw [show i + (d + 1) - 1 = i + d by omega] at h2
    omega
end Go.Proofs.YtkmfjlfejdoehaaGreat

set_option linter.unusedVariables false
set_option linter.unusedSimpArgs false
set_option maxRecDepth 8000
set_option maxHeartbeats 4000000
namespace Go.Proofs.YtkmfjlfejdoehaaGreat
open Go.Eng
def badP (a b : Ver) : Bool := (decide (a.2.1 = 0) && (decide (¬ b.2.1 = 0) || decide (a.1 = b.1))) || (decide (¬ b.2.1 = 0) && decide (b.2.1 < a.2.1))
def sSCheckR : PSpec := sCheck
theorem OrdB_iff : ∀ (ys : List Ver) (l : List Int), OrdB ys l ↔ (∀ v ∈ ys, v.2.1 = 0 ∧ v.1 ∉ l) ∧ ys.Pairwise (fun a b => a.1 ≠ b.1)
  | [], l => by simp [OrdB]
  | v :: r, l => by
    rw [OrdB, OrdB_iff r (v.1 :: l), List.pairwise_cons]
    constructor
    · rintro ⟨h1, h2, h3, h4⟩
      refine ⟨fun w hw => ?_, fun w hw hc => (h3 w hw).2 (by simp [hc]), h4⟩
      rcases List.mem_cons.1 hw with rfl | hw
      · exact ⟨h1, h2⟩
      · exact ⟨(h3 w hw).1, fun hc => (h3 w hw).2 (by simp [hc])⟩
    · rintro ⟨h1, h2, h3⟩
      refine ⟨(h1 v (by simp)).1, (h1 v (by simp)).2, fun w hw => ⟨(h1 w (by simp [hw])).1, fun hc => ?_⟩, h3⟩
      rcases List.mem_cons.1 hc with hc | hc
      · exact h2 w hw hc.symm
      · exact (h1 w (by simp [hw])).2 hc
theorem firstZ_at (xs : List Ver) : firstZ xs ≤ xs.length ∧ (firstZ xs < xs.length → (xs.getD (firstZ xs) ver0).2.1 = 0) := by
  have hp := idxF_pos ordered1 xs 0
  unfold firstZ
  split
  · exact ⟨Nat.le_refl _, fun h => absurd h (Nat.lt_irrefl _)⟩
  · refine ⟨by omega, fun _ => ?_⟩
    rcases Go.Eng.idxF_find ver0 ordered1 xs 0 with ⟨h1, _⟩ | ⟨j, h1, h2, h3⟩
    · omega
    · have := List.find?_some h3
      rw [h1, show (((0 : Nat) : Int) + (j : Int)).toNat = j by omega]
      simpa [ordered1] using this
def okP (xs : List Ver) (i : Nat) : Prop := ∀ j, j < i → ∀ k, k < j → badP (xs.getD k ver0) (xs.getD j ver0) = false
theorem bad_false {a b : Ver} : badP a b = false ↔ (a.2.1 = 0 → b.2.1 = 0 ∧ a.1 ≠ b.1) ∧ (b.2.1 ≠ 0 → a.2.1 ≤ b.2.1) := by
  unfold badP
  rw [Bool.or_eq_false_iff, Bool.and_eq_false_iff, Bool.and_eq_false_iff, Bool.or_eq_false_iff]
  simp only [decide_eq_false_iff_not]
  constructor
  · rintro ⟨h1, h2⟩
    refine ⟨fun h => ?_, fun h => ?_⟩
    · rcases h1 with h1 | h1
      · exact absurd h h1
      · exact ⟨Classical.not_not.1 h1.1, h1.2⟩
    · rcases h2 with h2 | h2
      · exact absurd h h2
      · omega
  · rintro ⟨h1, h2⟩
    refine ⟨?_, ?_⟩
    · by_cases h : a.2.1 = 0
      · exact .inr ⟨Classical.not_not.2 (h1 h).1, (h1 h).2⟩
      · exact .inl h
    · by_cases h : b.2.1 = 0
      · exact .inl (Classical.not_not.2 h)
      · exact .inr (by have := h2 h; omega)
theorem ordered_iff {xs : List Ver} : ordered xs = true ↔ okP xs xs.length := by
  have hz := firstZ_at xs
  have hn := firstZ_not xs
  unfold ordered
  rw [decide_eq_true_iff, OrdB_iff]
  constructor
  · rintro ⟨h1, h2, h3⟩ j hj k hk
    have hmem : ∀ i, firstZ xs ≤ i → i < xs.length → (xs.getD i ver0).2.1 = 0 := fun i hi hl => (h2 _ (by
      rw [List.mem_iff_getElem]
      exact ⟨i - firstZ xs, by simp; omega, by simp [List.getD, hl]; congr 1; omega⟩)).1
    rw [bad_false]
    by_cases hjn : j < firstZ xs
    · have hm := OrdA_mono h1 (j - k) k (by omega)
      rw [show k + (j - k) = j by omega] at hm
      exact ⟨fun h => absurd h (hn k (by omega)).2, fun _ => hm⟩
    · have hj0 := hmem j (by omega) hj
      refine ⟨fun h => ⟨hj0, fun hc => ?_⟩, fun h => absurd hj0 h⟩
      have hkn : firstZ xs ≤ k := by
        rcases Nat.lt_or_ge k (firstZ xs) with h4 | h4
        · exact absurd h (hn k h4).2
        · exact h4
      rw [List.pairwise_iff_getElem] at h3
      have := h3 (k - firstZ xs) (j - firstZ xs) (by simp; omega) (by simp; omega) (by omega)
      simp only [List.getElem_drop] at this
      apply this
      have e1 : xs[firstZ xs + (k - firstZ xs)]'(by omega) = xs.getD k ver0 := by simp [List.getD, show k < xs.length by omega]; congr 1; omega
      have e2 : xs[firstZ xs + (j - firstZ xs)]'(by omega) = xs.getD j ver0 := by simp [List.getD, hj]; congr 1; omega
      rw [e1, e2]; exact hc
  · intro h
    have h' : ∀ j, j < xs.length → ∀ k, k < j → _ := fun j hj k hk => bad_false.1 (h j hj k hk)
    have hmem : ∀ i, firstZ xs ≤ i → i < xs.length → (xs.getD i ver0).2.1 = 0 := fun i hi hl => by
      rcases Nat.lt_or_ge (firstZ xs) i with h4 | h4
      · exact ((h' i hl (firstZ xs) h4).1 (hz.2 (by omega))).1
      · have : i = firstZ xs := by omega
        subst this; exact hz.2 hl
    refine ⟨fun j hj h1 => (h' j (by omega) (j - 1) (by omega)).2 (hn j hj).2, fun v hv => ⟨?_, by simp⟩, ?_⟩
    · rw [List.mem_iff_getElem] at hv
      obtain ⟨i, hi, rfl⟩ := hv
      simp at hi
      have := hmem (firstZ xs + i) (by omega) (by omega)
      simpa [List.getD, show firstZ xs + i < xs.length by omega] using this
    · rw [List.pairwise_iff_getElem]
      intro i j hi hj hij hc
      simp at hi hj
      simp only [List.getElem_drop] at hc
      have e1 : xs[firstZ xs + i]'(by omega) = xs.getD (firstZ xs + i) ver0 := by simp [List.getD, show firstZ xs + i < xs.length by omega]
      have e2 : xs[firstZ xs + j]'(by omega) = xs.getD (firstZ xs + j) ver0 := by simp [List.getD, show firstZ xs + j < xs.length by omega]
      rw [e1, e2] at hc
      exact ((h' (firstZ xs + j) (by omega) (firstZ xs + i) (by omega)).1 (hmem _ (by omega) (by omega))).2 hc
theorem verC_eq {v : Ver} : verC v = if 24 < v.2.2.2.length then 5 else if v.2.2.1 = true ∧ v.2.2.2 ≠ [] then 4 else if inB v.1 = true ∧ inB v.2.1 = true then 0 else 9 := rfl
theorem bad_ret {key : List UInt8} {xs : List Ver} {i : Nat} {c : Int} (hC : check (key, xs) = if firstBad xs = 0 then (if ordered xs = true then 0 else 12) else firstBad xs) (he : firstBad xs = firstBad (xs.drop i)) (hi : i < xs.length) (hv : verC (xs.getD i (0, 0, false, [])) = c) (h0 : ¬ c = 0) : c = check (key, xs) := by
  rw [firstBad_at hi, if_neg (by rw [hv]; exact h0)] at he
  rw [hC, he, hv, if_neg h0]
theorem good_step {xs : List Ver} {i : Nat} (he : firstBad xs = firstBad (xs.drop i)) (hi : i < xs.length) (hv : verC (xs.getD i (0, 0, false, [])) = 0) : firstBad xs = firstBad (xs.drop (i + 1)) := by
  rw [firstBad_at hi, if_pos hv] at he
  exact he
def sInR : PSpec := sIn
theorem fInR : FnOk Tryz.prog 152 := ⟨_, Tryz.func152, by decide, rfl⟩
theorem pInR : PSound Tryz.prog 152 sInR := by
  refine psound (T := tab) (S := (spOf [])) (keep := k152) (by kernel_rfl) tabOk spNil (by kernel_rfl) Tryz.func152 (by kernel_rfl) (by decide) fun xs hg hp => ?_
  obtain ⟨n, ⟨⟩⟩ := xs
  change Int at n
  show vfun tab _ k152 Tryz.f152 [.i .i64 n] [] _
  refine Ev.out ?_
  repeat' (first | ((with_reducible refine Ev.mk ?_); conv => whnf) | (with_reducible refine And.intro ?_ ?_) | (intro h))
  all_goals (try simp only [decide_eq_true_eq, decide_eq_false_iff_not, beq_iff_eq, bne_iff_ne, beq_eq_false_iff_ne, bne_eq_false_iff_eq, Int.toNat_natCast, ge_iff_le, gt_iff_lt, Bool.not_eq_true', Bool.not_eq_false', Int.not_lt, Int.not_le, ne_eq] at *)
  all_goals (try dsimp only [Ty.den, Ty.dflt, VerT] at *)
  all_goals (try simp only [eq4, ne4, eq3, ne3, eq2, ne2, Prod.eta, List.length_cons, List.length_nil, List.length_append, Nat.zero_add] at *)
  all_goals (try simp (disch := omega) only [wrap64] at *)
  all_goals
    refine Leaf.mk (ret1 (show _ = inB n from ?_))
    simp only [inB]
    first
    | (rw [decide_eq_false (p := 0 ≤ n ∧ n ≤ 1099511627776) (by omega)]; done)
    | (congr 1; simp only [eq_iff_iff]; omega)
theorem fSCheckR : FnOk Tryz.prog 87 := ⟨_, Tryz.func87, by decide, rfl⟩
theorem pSCheckR : PSound Tryz.prog 87 sSCheckR := by
  refine psound (T := tab) (S := (spOf [(152, sInR.spec (lsOf []))])) (keep := k87) (by kernel_rfl) tabOk (spCons (pOk pInR fInR (by decide) lsNil) spNil) (by kernel_rfl) Tryz.func87 (by kernel_rfl) (by decide) fun xs hg hp => ?_
  obtain ⟨⟨key, xs⟩, ⟨⟩⟩ := xs
  obtain ⟨⟨hk, hl, hx⟩, -⟩ := hg
  change List UInt8 at key
  change List Ver at xs
  change xs.length ≤ _ at hl
  have hl := len63 hl
  have hxv : ∀ i, i < xs.length → (xs.getD i ver0).2.2.2.length ≤ 9223372036854775807 := fun i hi => len63 (good_at (e := VerT) hx hi ver0).2.2.2
  clear hp
  show vfun tab _ k87 Tryz.f87 [.agg [.s key, .sl VerT xs]] [] _
  refine Ev.out ?_
  repeat' (first | ((with_reducible refine Ev.mk ?_); conv => whnf) | (with_reducible refine And.intro ?_ ?_) | (intro h))
  all_goals (try simp only [decide_eq_true_eq, decide_eq_false_iff_not, beq_iff_eq, bne_iff_ne, beq_eq_false_iff_ne, bne_eq_false_iff_eq, Int.toNat_natCast, ge_iff_le, gt_iff_lt, Bool.not_eq_true', Bool.not_eq_false', Int.not_lt, Int.not_le, ne_eq] at *)
  all_goals (try dsimp only [Ty.den, Ty.dflt, VerT, sVersion, sOrdered] at *)
  all_goals (try simp only [eq4, ne4, eq3, ne3, eq2, ne2, Prod.eta, List.length_cons, List.length_nil, List.length_append, Nat.zero_add] at *)
  all_goals (try simp (disch := omega) only [wrap64] at *)
  all_goals try first | exact leafDraw (by kernel_rfl) | exact Leaf.mk trivial | (refine Leaf.mk ?_; omega) | (refine Leaf.mk ?_; unfold maxLen; omega)
  · refine Leaf.mk (ret1 (show (5 : Int) = check (key, xs) from ?_))
    rw [check, if_pos (show 16 < key.length by omega)]
  · refine Leaf.mk (ret1 (show (7 : Int) = check (key, xs) from ?_))
    rw [check, if_neg (show ¬ 16 < key.length by omega), if_pos (show 8 < xs.length by omega)]
  have hC : check (key, xs) = if firstBad xs = 0 then (if ordered xs = true then 0 else 12) else firstBad xs := by
    rw [check, if_neg (show ¬ 16 < key.length by omega), if_neg (show ¬ 8 < xs.length by omega)]
  refine LoopVC.on (fun i : Nat => [(3, .i .i64 i)]) (fun _ => []) (fun i => i ≤ xs.length ∧ firstBad xs = firstBad (xs.drop i)) (fun i => xs.length - i) 0 rfl ⟨by omega, rfl⟩ ?_
  intro i ⟨hi, he⟩
  have hxi := hxv i
  dsimp only [ver0] at hxi
  repeat' (first | ((with_reducible refine Ev.mk ?_); conv => whnf) | (with_reducible refine And.intro ?_ ?_) | (intro h))
  all_goals (try simp only [decide_eq_true_eq, decide_eq_false_iff_not, beq_iff_eq, bne_iff_ne, beq_eq_false_iff_ne, bne_eq_false_iff_eq, Int.toNat_natCast, ge_iff_le, gt_iff_lt, Bool.not_eq_true', Bool.not_eq_false', Int.not_lt, Int.not_le, ne_eq] at *)
  all_goals (try dsimp only [Ty.den, Ty.dflt, VerT, sIn, sInR] at *)
  all_goals (try simp only [eq4, ne4, eq3, ne3, eq2, ne2, Prod.eta, List.length_cons, List.length_nil, List.length_append, Nat.zero_add] at *)
  all_goals (try simp (disch := omega) only [wrap64] at *)
  all_goals try first | exact leafDraw (by kernel_rfl) | exact Leaf.mk trivial | (refine Leaf.mk ?_; omega) | (refine Leaf.mk ?_; unfold maxLen; omega)
  · have hv : verC (xs.getD i (0, 0, false, [])) = 5 := by
      rw [verC_eq]
      repeat' split
      all_goals first | rfl | (exfalso; first | omega | simp_all)
    exact Leaf.mk (ret1 (bad_ret (c := 5) hC he (by omega) hv (by decide)))
  · have hv : verC (xs.getD i (0, 0, false, [])) = 4 := by
      rw [verC_eq]
      repeat' split
      all_goals first | rfl | (exfalso; first | omega | simp_all)
    exact Leaf.mk (ret1 (bad_ret (c := 4) hC he (by omega) hv (by decide)))
  · have hv : verC (xs.getD i (0, 0, false, [])) = 9 := by
      rw [verC_eq]
      repeat' split
      all_goals first | rfl | (exfalso; first | omega | simp_all)
    exact Leaf.mk (ret1 (bad_ret (c := 9) hC he (by omega) hv (by decide)))
  · have hv : verC (xs.getD i (0, 0, false, [])) = 9 := by
      rw [verC_eq]
      repeat' split
      all_goals first | rfl | (exfalso; first | omega | simp_all)
    exact Leaf.mk (ret1 (bad_ret (c := 9) hC he (by omega) hv (by decide)))
  · have hv : verC (xs.getD i (0, 0, false, [])) = 0 := by
      rw [verC_eq]
      repeat' split
      all_goals first | rfl | (exfalso; first | omega | simp_all)
    exact Leaf.mk ⟨i + 1, rfl, ⟨by omega, good_step he (by omega) hv⟩, by omega⟩
  · have hv : verC (xs.getD i (0, 0, false, [])) = 9 := by
      rw [verC_eq]
      repeat' split
      all_goals first | rfl | (exfalso; first | omega | simp_all)
    exact Leaf.mk (ret1 (bad_ret (c := 9) hC he (by omega) hv (by decide)))
  · have hv : verC (xs.getD i (0, 0, false, [])) = 9 := by
      rw [verC_eq]
      repeat' split
      all_goals first | rfl | (exfalso; first | omega | simp_all)
    exact Leaf.mk (ret1 (bad_ret (c := 9) hC he (by omega) hv (by decide)))
  · have hv : verC (xs.getD i (0, 0, false, [])) = 0 := by
      rw [verC_eq]
      repeat' split
      all_goals first | rfl | (exfalso; first | omega | simp_all)
    exact Leaf.mk ⟨i + 1, rfl, ⟨by omega, good_step he (by omega) hv⟩, by omega⟩
  rw [drop_end (by omega)] at he
  have hC2 : check (key, xs) = if ordered xs = true then 0 else 12 := by rw [hC, if_pos (show firstBad xs = 0 from he)]
  clear hxi hxv hx
  refine LoopVC.on (fun i : Nat => [(5, .i .i64 i)]) (fun _ => []) (fun i => i ≤ xs.length ∧ okP xs i) (fun i => xs.length - i) 0 rfl ⟨by omega, fun j hj => by omega⟩ ?_
  intro i ⟨hi, ho⟩
  repeat' (first | ((with_reducible refine Ev.mk ?_); conv => whnf) | (with_reducible refine And.intro ?_ ?_) | (intro h))
  all_goals (try simp only [decide_eq_true_eq, decide_eq_false_iff_not, beq_iff_eq, bne_iff_ne, beq_eq_false_iff_ne, bne_eq_false_iff_eq, Int.toNat_natCast, ge_iff_le, gt_iff_lt, Bool.not_eq_true', Bool.not_eq_false', Int.not_lt, Int.not_le, ne_eq] at *)
  all_goals (try dsimp only [Ty.den, Ty.dflt, VerT, sIn, sInR] at *)
  all_goals (try simp only [eq4, ne4, eq3, ne3, eq2, ne2, Prod.eta, List.length_cons, List.length_nil, List.length_append, Nat.zero_add] at *)
  all_goals (try simp (disch := omega) only [wrap64] at *)
  all_goals try first | exact leafDraw (by kernel_rfl) | exact Leaf.mk trivial | (refine Leaf.mk ?_; omega) | (refine Leaf.mk ?_; unfold maxLen; omega)
  · refine LoopVC.on (fun k : Nat => [(6, .i .i64 k)]) (fun _ => []) (fun k => k ≤ i ∧ ∀ j, j < k → badP (xs.getD j ver0) (xs.getD i ver0) = false) (fun k => i - k) 0 rfl ⟨by omega, fun j hj => by omega⟩ ?_
    intro k ⟨hk, hb⟩
    repeat' (first | ((with_reducible refine Ev.mk ?_); conv => whnf) | (with_reducible refine And.intro ?_ ?_) | (intro h))
    all_goals (try simp only [decide_eq_true_eq, decide_eq_false_iff_not, beq_iff_eq, bne_iff_ne, beq_eq_false_iff_ne, bne_eq_false_iff_eq, Int.toNat_natCast, ge_iff_le, gt_iff_lt, Bool.not_eq_true', Bool.not_eq_false', Int.not_lt, Int.not_le, ne_eq] at *)
    all_goals (try dsimp only [Ty.den, Ty.dflt, VerT, sIn, sInR] at *)
    all_goals (try simp only [eq4, ne4, eq3, ne3, eq2, ne2, Prod.eta, List.length_cons, List.length_nil, List.length_append, Nat.zero_add] at *)
    all_goals (try simp (disch := omega) only [wrap64] at *)
    all_goals try first | exact leafDraw (by kernel_rfl) | exact Leaf.mk trivial | (refine Leaf.mk ?_; omega) | (refine Leaf.mk ?_; unfold maxLen; omega)
    all_goals first
      | (refine Leaf.mk (ret1 (show 12 = check (key, xs) from ?_))
         rw [hC2, if_neg]
         intro hc
         have hx := bad_false.1 (ordered_iff.1 hc i (by omega) k (by omega))
         dsimp only [ver0] at hx
         first
         | (have := (hx.1 ‹_›).1; contradiction)
         | exact (hx.1 ‹_›).2 ‹_›
         | (have := hx.2 ‹_›; omega))
      | (refine Leaf.mk ⟨k + 1, rfl, ⟨by omega, fun j hj => ?_⟩, by omega⟩
         rcases Nat.lt_or_ge j k with hjk | hjk
         · exact hb j hjk
         · obtain rfl : j = k := by omega
           rw [bad_false]
           dsimp only [ver0]
           refine ⟨fun hh => ?_, fun hh => ?_⟩
           all_goals first
             | omega
             | contradiction
             | exact ⟨by omega, ‹_›⟩)
      | (refine Leaf.mk ⟨i + 1, rfl, ⟨by omega, fun j hj => ?_⟩, by omega⟩
         rcases Nat.lt_or_ge j i with hji | hji
         · exact ho j hji
         · obtain rfl : j = i := by omega
           exact fun m hm => hb m (by omega))
  · refine Leaf.mk (ret1 (show 0 = check (key, xs) from ?_))
    obtain rfl : i = xs.length := by omega
    rw [hC2, if_pos (ordered_iff.2 ho)]
def sSPutR : PSpec := sSPut
theorem fSPutR : FnOk Tryz.prog 166 := ⟨_, Tryz.func166, by decide, rfl⟩
theorem pSPutR : PSound Tryz.prog 166 sSPutR := by
  refine psound (T := tab) (S := (spOf [(87, sSCheckR.spec (lsOf [])), (209, sPutTextR.spec (lsOf [])), (154, sPutSmallR.spec (lsOf []))])) (keep := k166) (by kernel_rfl) tabOk (spCons (pOk pSCheckR fSCheckR (by decide) lsNil) (spCons (pOk pPutTextR fPutTextR (by decide) lsNil) (spCons (pOk pPutSmallR fPutSmallR (by decide) lsNil) spNil))) (by kernel_rfl) Tryz.func166 (by kernel_rfl) (by decide) fun xs hg hp => ?_
  obtain ⟨⟨key, xs⟩, ⟨⟩⟩ := xs
  change List UInt8 at key
  change List Ver at xs
  clear hp hg
  show vfun tab _ k166 Tryz.f166 [.agg [.s key, .sl VerT xs]] [] _
  refine Ev.out ?_
  repeat' (first | ((with_reducible refine Ev.mk ?_); conv => whnf) | (with_reducible refine And.intro ?_ ?_) | (intro h))
  all_goals (try simp only [decide_eq_true_eq, decide_eq_false_iff_not, beq_iff_eq, bne_iff_ne, beq_eq_false_iff_ne, bne_eq_false_iff_eq, Int.toNat_natCast, ge_iff_le, gt_iff_lt, Bool.not_eq_true', Bool.not_eq_false', Int.not_lt, Int.not_le, ne_eq] at *)
  all_goals (try dsimp only [Ty.den, Ty.dflt, VerT, sCheck, sSCheckR, sPutText, sPutSmall, sPutTextR, sPutSmallR] at *)
  all_goals (try simp only [eq4, ne4, eq3, ne3, eq2, ne2, Prod.eta, List.length_cons, List.length_nil, List.length_append, Nat.zero_add] at *)
  all_goals (try simp (disch := omega) only [wrap64] at *)
  all_goals try first | exact leafDraw (by kernel_rfl) | exact Leaf.mk trivial | (refine Leaf.mk ?_; omega) | (refine Leaf.mk ?_; unfold maxLen; omega)
  · exact Leaf.mk (retB (u := ([], check (key, xs))) (if_neg h).symm)
  all_goals
    have ok := check_ok.1 ‹check (key, xs) = 0›
    have hk := ok.key
    have hl := ok.len
    dsimp only at hk hl
    have h1 := putText_len key
    have h2 := putSmall_len xs.length
  · exact Leaf.mk (show key.length ≤ 100000 by omega)
  all_goals rw [wrapu (by omega)]
  · exact Leaf.mk (by omega)
  · exact Leaf.mk (by unfold maxLen; omega)
  have hS : putR11 (key, xs) = (putS (key, xs), 0) := if_pos ‹check (key, xs) = 0›
  have hva : ∀ i, i < xs.length → VerOk (xs.getD i ver0) := fun i hi => ok.all _ (getD_mem ver0 hi)
  refine LoopVC.on (fun i : Nat => [(6, .i .i64 i)]) (fun i => [(1, .arr 5 (.int .u8) (putText key ++ putSmall xs.length ++ (xs.take i).flatMap putV))]) (fun i => i ≤ xs.length) (fun i => xs.length - i) 0 (by simp only [List.take_zero, List.flatMap_nil, List.append_nil]; rfl) (by omega) ?_
  intro i hi
  have hfl := flat_len putV 69 (xs.take i) (fun v hv => putV_len (ok.all v (List.mem_of_mem_take hv)))
  have htl : (xs.take i).length * 69 ≤ 552 := by rw [List.length_take]; omega
  repeat' (first | ((with_reducible refine Ev.mk ?_); conv => whnf) | (with_reducible refine And.intro ?_ ?_) | (intro h))
  all_goals (try simp only [decide_eq_true_eq, decide_eq_false_iff_not, beq_iff_eq, bne_iff_ne, beq_eq_false_iff_ne, bne_eq_false_iff_eq, Int.toNat_natCast, ge_iff_le, gt_iff_lt, Bool.not_eq_true', Bool.not_eq_false', Int.not_lt, Int.not_le, ne_eq] at *)
  all_goals (try dsimp only [Ty.den, Ty.dflt, VerT, sPutText, sPutSmall, sPutTextR, sPutSmallR] at *)
  all_goals (try simp only [eq4, ne4, eq3, ne3, eq2, ne2, Prod.eta, List.length_cons, List.length_nil, List.length_append, Nat.zero_add] at *)
  all_goals (try simp (disch := omega) only [wrap64] at *)
  all_goals try first | exact leafDraw (by kernel_rfl) | exact Leaf.mk trivial | (refine Leaf.mk ?_; omega) | (refine Leaf.mk ?_; unfold maxLen; omega)
  · have hv := hva i (by omega)
    have hvl := putV_len hv
    simp only [putV, List.length_append, List.length_cons] at hvl
    rw [wrapu (n := (xs.getD i (0, 0, false, [])).1) hv.txn]
    dsimp only [ver0] at hvl
    exact Leaf.mk (by omega)
  · have hv := hva i (by omega)
    have hvl := putV_len hv
    simp only [putV, List.length_append, List.length_cons] at hvl
    rw [wrapu (n := (xs.getD i (0, 0, false, [])).1) hv.txn]
    dsimp only [ver0] at hvl
    exact Leaf.mk (by unfold maxLen; omega)
  all_goals try
    have hv := hva i (by omega)
    have hvl := putV_len hv
    simp only [putV, List.length_append, List.length_cons] at hvl
    rw [wrapu (n := (xs.getD i (0, 0, false, [])).1) hv.txn, wrapu (n := (xs.getD i (0, 0, false, [])).2.1) hv.ts]
    dsimp only [ver0] at hvl
  all_goals try first
    | (refine Leaf.mk ?_; omega)
    | (refine Leaf.mk ?_; unfold maxLen; omega)
    | exact Leaf.mk (show (xs.getD i ver0).2.2.2.length ≤ 100000 by have := (hva i (by omega)).val; omega)
  all_goals try
    refine Leaf.mk ⟨i + 1, ?_, by omega, by omega⟩
    rw [flatMap_at ver0 (by omega)]
    have hv : putV (xs.getD i ver0) = putSmall (xs.getD i (0, 0, false, [])).1 ++ (putSmall (xs.getD i (0, 0, false, [])).2.1 ++ ((if (xs.getD i (0, 0, false, [])).2.2.1 = true then 1 else 0) :: putText (xs.getD i (0, 0, false, [])).2.2.2)) := rfl
    first
    | (rw [if_pos (by assumption)] at hv; rw [hv]; simp only [List.append_assoc, List.cons_append, List.nil_append]; rfl)
    | (rw [if_neg (by rw [Bool.not_eq_true]; assumption)] at hv; rw [hv]; simp only [List.append_assoc, List.cons_append, List.nil_append]; rfl)
  · rw [List.take_of_length_le (by omega)]
    refine Leaf.mk (retB (u := (putText key ++ putSmall xs.length ++ xs.flatMap putV, 0)) ?_)
    show _ = putR11 (key, xs)
    rw [hS, putS, List.append_assoc]
end Go.Proofs.YtkmfjlfejdoehaaGreat

set_option linter.unusedVariables false
set_option linter.unusedSimpArgs false
set_option maxRecDepth 8000
set_option maxHeartbeats 4000000
namespace Go.Proofs.YtkmfjlfejdoehaaGreat
open Go.Eng
theorem rdSmall_suf (b : List Int) (e : Int) : (rdSmall b e).2.1 <:+ b := by
  unfold rdSmall
  repeat' split
  all_goals first | exact List.suffix_refl _ | exact List.drop_suffix _ _
theorem rdText_suf (b : List Int) (e m : Int) : (rdText b e m).2.1 <:+ b := by
  unfold rdText
  generalize (if 0 < m then m else 0) = mm
  repeat' split
  all_goals first | exact List.suffix_refl _ | exact List.drop_suffix _ _
theorem suf_len {a b : List Int} (h : a <:+ b) : a.length ≤ b.length := h.length_le
def sTake : PSpec := ⟨[.d RdT], [⟨true, [.d RdT]⟩, ⟨true, [.d StT]⟩], fun x => List.length (α := Int) x.1.1 ≤ 100000, fun x => (((takeF x.1.1 x.1.2).1, ()), ((takeF x.1.1 x.1.2).2, ()), ())⟩
theorem takeL_go {f : Nat} {n i : Int} {b : List Int} {e : Int} {acc : List Ver} (h : (i < n ∧ i ≤ 8) ∧ e = 0) {g : Bool × List Int} (hg : (if (rdSmall (rdSmall b e).2.1 (rdSmall b e).2.2).2.2 = 0 ∧ 0 < (rdSmall (rdSmall b e).2.1 (rdSmall b e).2.2).2.1.length then (decide ((rdSmall (rdSmall b e).2.1 (rdSmall b e).2.2).2.1.getD 0 0 = 1), (rdSmall (rdSmall b e).2.1 (rdSmall b e).2.2).2.1.drop 1) else (false, (rdSmall (rdSmall b e).2.1 (rdSmall b e).2.2).2.1)) = g) :
    takeL (f + 1) n i b e acc = takeL f n (i + 1) (rdText g.2 (rdSmall (rdSmall b e).2.1 (rdSmall b e).2.2).2.2 24).2.1 (rdText g.2 (rdSmall (rdSmall b e).2.1 (rdSmall b e).2.2).2.2 24).2.2 (acc ++ [((rdSmall b e).1, (rdSmall (rdSmall b e).2.1 (rdSmall b e).2.2).1, g.1, (rdText g.2 (rdSmall (rdSmall b e).2.1 (rdSmall b e).2.2).2.2 24).1)]) := by
  rw [takeL, if_pos h]
  dsimp only
  rw [hg]
theorem retT {u v : (List Int × Int) × Stk} (h : u = v) : (some ((u.1, ()), (u.2, ()), ()) : Option (((List Int × Int) × Unit) × (Stk × Unit) × Unit)) = some ((v.1, ()), (v.2, ()), ()) := by rw [h]
theorem fTake : FnOk Tryz.prog 165 := ⟨_, Tryz.func165, by decide, rfl⟩
theorem pTake : PSound Tryz.prog 165 sTake := by
  refine psound (T := tab) (S := (spOf [(100, sRSmall.spec (lsOf [])), (177, sRText.spec (lsOf []))])) (keep := k165) (by kernel_rfl) tabOk (spCons (pOk pRSmall fRSmall (by decide) lsNil) (spCons (pOk pRText fRText (by decide) lsNil) spNil)) (by kernel_rfl) Tryz.func165 (by kernel_rfl) (by decide) fun xs hg hp => ?_
  obtain ⟨⟨b, e⟩, ⟨⟩⟩ := xs
  change List Int at b
  change Int at e
  change b.length ≤ 100000 at hp
  clear hg
  have hb1 := suf_len (rdText_suf b e 16)
  have hb2 := suf_len (rdSmall_suf (rdText b e 16).2.1 (rdText b e 16).2.2)
  show vfun tab _ k165 Tryz.f165 [.agg [.sl (.int .u8) b, .i .i64 e]] [] _
  refine Ev.out ?_
  repeat' (first | ((with_reducible refine Ev.mk ?_); conv => whnf) | (with_reducible refine And.intro ?_ ?_) | (intro h))
  all_goals (try simp only [decide_eq_true_eq, decide_eq_false_iff_not, beq_iff_eq, bne_iff_ne, beq_eq_false_iff_ne, bne_eq_false_iff_eq, Int.toNat_natCast, ge_iff_le, gt_iff_lt, Bool.not_eq_true', Bool.not_eq_false', Int.not_lt, Int.not_le, ne_eq] at *)
  all_goals (try dsimp only [Ty.den, Ty.dflt, VerT, sRSmall, sRText] at *)
  all_goals (try simp only [eq4, ne4, eq3, ne3, eq2, ne2, Prod.eta, List.length_cons, List.length_nil, List.length_append, Nat.zero_add] at *)
  all_goals (try simp (disch := omega) only [wrap64] at *)
  all_goals try first | exact leafDraw (by kernel_rfl) | exact Leaf.mk trivial | (refine Leaf.mk ?_; omega) | (refine Leaf.mk ?_; unfold maxLen; omega)
  generalize hn : (rdSmall (rdText b e 16).2.1 (rdText b e 16).2.2).1 = n
  generalize hb0 : (rdSmall (rdText b e 16).2.1 (rdText b e 16).2.2).2.1 = b0 at *
  generalize he0 : (rdSmall (rdText b e 16).2.1 (rdText b e 16).2.2).2.2 = e0
  have hF : takeF b e = (((takeL 10 n 0 b0 e0 []).1, (takeL 10 n 0 b0 e0 []).2.1), ((rdText b e 16).1, (takeL 10 n 0 b0 e0 []).2.2)) := by
    unfold takeF; dsimp only; rw [hn, hb0, he0]
  refine LoopVC.weak [(.cell 3 1, .nil 121 VerT)] (fun a : Nat × List Int × Int × List Ver => [(6, .i .i64 a.1)]) (fun a => [(0, .box [.sl (.int .u8) a.2.1, .i .i64 a.2.2.1]), (4, .arr 121 VerT a.2.2.2)]) (fun a => a.1 ≤ 9 ∧ a.2.1.length ≤ 100000 ∧ a.2.2.2.length ≤ a.1 ∧ takeL 10 n 0 b0 e0 [] = takeL (10 - a.1) n a.1 a.2.1 a.2.2.1 a.2.2.2) (fun a => 9 - a.1) (0, b0, e0, []) (Ev.mk ?_)
  (conv => whnf)
  refine ⟨Leaf.mk ?_, Leaf.mk ?_, ?_⟩
  · rfl
  · exact ⟨by simp, by show b0.length ≤ _; omega, by simp, rfl⟩
  intro ⟨i, rb, re, acc⟩ ⟨hi, hrb, hacc, ht⟩
  dsimp only at hi hrb hacc ht ⊢
  have hs1 := suf_len (rdSmall_suf rb re)
  have hs2 := suf_len (rdSmall_suf (rdSmall rb re).2.1 (rdSmall rb re).2.2)
  have hs3 := fun l => suf_len (rdText_suf l (rdSmall (rdSmall rb re).2.1 (rdSmall rb re).2.2).2.2 24)
  repeat' (first | ((with_reducible refine Ev.mk ?_); conv => whnf) | (with_reducible refine And.intro ?_ ?_) | (intro h))
  all_goals (try simp only [decide_eq_true_eq, decide_eq_false_iff_not, beq_iff_eq, bne_iff_ne, beq_eq_false_iff_ne, bne_eq_false_iff_eq, Int.toNat_natCast, ge_iff_le, gt_iff_lt, Bool.not_eq_true', Bool.not_eq_false', Int.not_lt, Int.not_le, ne_eq] at *)
  all_goals (try dsimp only [Ty.den, Ty.dflt, VerT, sRSmall, sRText] at *)
  all_goals (try simp only [eq4, ne4, eq3, ne3, eq2, ne2, Prod.eta, List.length_cons, List.length_nil, List.length_append, Nat.zero_add] at *)
  all_goals (try simp (disch := omega) only [wrap64] at *)
  all_goals try first | exact leafDraw (by kernel_rfl) | exact Leaf.mk trivial | (refine Leaf.mk ?_; omega) | (refine Leaf.mk ?_; unfold maxLen; omega)
  all_goals (try simp only [List.take_length, Int.reduceToNat] at *)
  · exact Leaf.mk (by rw [List.length_drop]; omega)
  · have hgo := takeL_go (f := 10 - (i + 1)) (acc := acc) (b := rb) (e := re) ⟨⟨‹(i : Int) < n›, ‹(i : Int) ≤ 8›⟩, ‹re = 0›⟩ (if_pos ⟨‹(rdSmall (rdSmall rb re).2.1 (rdSmall rb re).2.2).2.2 = 0›, by omega⟩)
    rw [show 10 - i = 10 - (i + 1) + 1 by omega, hgo] at ht
    have hs3 := hs3 ((rdSmall (rdSmall rb re).2.1 (rdSmall rb re).2.2).2.1.drop 1)
    rw [List.length_drop] at hs3
    exact Leaf.mk ⟨(i + 1, _, _, _), rfl, ⟨by show i + 1 ≤ 9; omega, Nat.le_trans hs3 (by omega), by simp; omega, ht⟩, by show 9 - (i + 1) < _; omega⟩
  · have hgo := takeL_go (f := 10 - (i + 1)) (acc := acc) (b := rb) (e := re) ⟨⟨‹(i : Int) < n›, ‹(i : Int) ≤ 8›⟩, ‹re = 0›⟩ (if_neg (fun hc => by have := hc.2; omega))
    rw [show 10 - i = 10 - (i + 1) + 1 by omega, hgo] at ht
    have hs3 := hs3 (rdSmall (rdSmall rb re).2.1 (rdSmall rb re).2.2).2.1
    exact Leaf.mk ⟨(i + 1, _, _, _), rfl, ⟨by show i + 1 ≤ 9; omega, Nat.le_trans hs3 (by omega), by simp; omega, ht⟩, by show 9 - (i + 1) < _; omega⟩
  · have hgo := takeL_go (f := 10 - (i + 1)) (acc := acc) (b := rb) (e := re) ⟨⟨‹(i : Int) < n›, ‹(i : Int) ≤ 8›⟩, ‹re = 0›⟩ (if_neg (fun hc => h hc.1))
    rw [show 10 - i = 10 - (i + 1) + 1 by omega, hgo] at ht
    have hs3 := hs3 (rdSmall (rdSmall rb re).2.1 (rdSmall rb re).2.2).2.1
    exact Leaf.mk ⟨(i + 1, _, _, _), rfl, ⟨by show i + 1 ≤ 9; omega, Nat.le_trans hs3 (by omega), by simp; omega, ht⟩, by show 9 - (i + 1) < _; omega⟩
  all_goals
    rw [takeL_stop (n := n) (i := (i : Int)) (10 - i) rb re acc (by omega)] at ht
    exact Leaf.mk (retT (u := ((rb, re), ((rdText b e 16).1, acc))) (by show _ = takeF b e; rw [hF, ht]))
theorem suf_cut {R b : List Int} (h : R <:+ b) : (List.take b.length b).drop ((b.length : Int) - (R.length : Int)).toNat = R := by
  have := h.length_le
  rw [List.take_length, show ((b.length : Int) - (R.length : Int)).toNat = b.length - R.length by omega]
  exact (List.suffix_iff_eq_drop.1 h).symm
theorem flat_split {l : List Ver} {i : Nat} (h : i < l.length) (r : List Int) : (l.drop i).flatMap putV ++ r = putSmall (l.getD i ver0).1 ++ (putSmall (l.getD i ver0).2.1 ++ ((if (l.getD i ver0).2.2.1 = true then 1 else 0) :: (putText (l.getD i ver0).2.2.2 ++ ((l.drop (i + 1)).flatMap putV ++ r)))) := by
  rw [drop_at ver0 h]
  simp [putV]
theorem str_eq {xs ys : List Int} (hx : isB xs) (hy : isB ys) : (strOfBytes xs == strOfBytes ys) = decide (xs = ys) := by
  by_cases h : xs = ys
  · subst h; simp
  · rw [decide_eq_false h, beq_eq_false_iff_ne]
    exact fun hc => h (str_inj hx hy hc)
def sSGet : PSpec := ⟨[.d BT], [⟨true, [.d StT]⟩, ⟨false, [.d (.int .i64)]⟩], fun x => List.length (α := Int) x.1 ≤ 100000, fun x => (((getS x.1).1, ()), ((getS x.1).2, ()), ())⟩
def sSGetR : PSpec := sSGet
theorem retG {u v : Stk × Int} (h : u = v) : (some ((u.1, ()), (u.2, ()), ()) : Option ((Stk × Unit) × (Int × Unit) × Unit)) = some ((v.1, ()), (v.2, ()), ()) := by rw [h]
theorem putR11_zero {s : Stk} (h : (putR11 s).2 = 0) : check s = 0 ∧ (putR11 s).1 = putS s := by
  unfold putR11 at h ⊢
  split at h
  · rename_i hc; rw [if_pos hc]; exact ⟨hc, rfl⟩
  · rename_i hc; exact absurd h hc
theorem putR11_not {s : Stk} (h : ¬ (putR11 s).2 = 0) : ¬ check s = 0 := fun hc => h (by unfold putR11; rw [if_pos hc])
theorem fSGetR : FnOk Tryz.prog 101 := ⟨_, Tryz.func101, by decide, rfl⟩
theorem pSGetR : PSound Tryz.prog 101 sSGetR := by
  refine psound (T := tab) (S := (spOf [(165, sTake.spec (lsOf [])), (166, sSPutR.spec (lsOf []))])) (keep := k101) (by kernel_rfl) tabOk (spCons (pOk pTake fTake (by decide) lsNil) (spCons (pOk pSPutR fSPutR (by decide) lsNil) spNil)) (by kernel_rfl) Tryz.func101 (by kernel_rfl) (by decide) fun xs hg hp => ?_
  obtain ⟨b, ⟨⟩⟩ := xs
  obtain ⟨⟨-, hx⟩, -⟩ := hg
  change List Int at b
  change b.length ≤ 100000 at hp
  have hB : isB b := isB_good hx
  clear hx
  show vfun tab _ k101 Tryz.f101 [.sl (.int .u8) b] [] _
  refine Ev.out ?_
  repeat' (first | ((with_reducible refine Ev.mk ?_); conv => whnf) | (with_reducible refine And.intro ?_ ?_) | (intro h))
  all_goals (try simp only [decide_eq_true_eq, decide_eq_false_iff_not, beq_iff_eq, bne_iff_ne, beq_eq_false_iff_ne, bne_eq_false_iff_eq, Int.toNat_natCast, ge_iff_le, gt_iff_lt, Bool.not_eq_true', Bool.not_eq_false', Int.not_lt, Int.not_le, ne_eq] at *)
  all_goals (try dsimp only [Ty.den, Ty.dflt, VerT, sTake, sSPutR, sSPut] at *)
  all_goals (try simp only [eq4, ne4, eq3, ne3, eq2, ne2, Prod.eta, List.length_cons, List.length_nil, List.length_append, Nat.zero_add] at *)
  all_goals (try simp (disch := omega) only [wrap64] at *)
  all_goals try first | exact leafDraw (by kernel_rfl) | exact Leaf.mk trivial | (refine Leaf.mk ?_; omega) | (refine Leaf.mk ?_; unfold maxLen; omega)
  · refine Leaf.mk (retG (u := (([], []), 4)) (v := getS b) ?_)
    unfold getS; rw [if_neg (fun hc => putR11_not h hc.1)]
  · rename_i h0
    refine Leaf.mk (retG (u := (([], []), 4)) (v := getS b) ?_)
    unfold getS; rw [if_neg (fun hc => h (by rw [(putR11_zero h0).2, hc.2]))]
  · rename_i h0
    obtain ⟨h1, h2⟩ := putR11_zero h0
    refine Leaf.mk (retG (u := ((takeF b 0).2, 0)) (v := getS b) ?_)
    unfold getS; rw [if_pos ⟨h1, str_inj (isB_S _) hB (by rw [← h2, h])⟩]
theorem fSGet : FnOk Tryz.prog 98 := ⟨_, Tryz.func98, by decide, rfl⟩
theorem pSGet : PSound Tryz.prog 98 sSGet := by
  refine psound (T := tab) (S := (spOf [(95, sNew.spec (lsOf [])), (162, sText.spec), (96, sSmall.spec), (97, sLeft.spec), (163, sDone.spec), (157, sSPut.spec (lsOf [])), (99, sBEqual.spec (lsOf []))])) (keep := k98) (by kernel_rfl) tabOk (spCons (.inl ⟨nOk lsNil pNew, fNew⟩) (spCons (.inl ⟨pText, fText⟩) (spCons (.inl ⟨pSmall, fSmall⟩) (spCons (.inl ⟨pLeft, fLeft⟩) (spCons (.inl ⟨pDone, fDone⟩) (spCons (pOk pSPut fSPut (by decide) lsNil) (spCons (pOk pBEqual fBEqual (by decide) lsNil) spNil))))))) (by kernel_rfl) Tryz.func98 (by kernel_rfl) (by decide) fun xs hg hp => ?_
  obtain ⟨b, ⟨⟩⟩ := xs
  obtain ⟨⟨-, hx⟩, -⟩ := hg
  change List Int at b
  change b.length ≤ 100000 at hp
  have hB : isB b := isB_good hx
  clear hx
  have hb1 := rdText_suf b 0 16
  have hb2 := rdSmall_suf (rdText b 0 16).2.1 (rdText b 0 16).2.2
  have hl1 := suf_len hb1
  have hl2 := suf_len hb2
  show vfun tab _ k98 Tryz.f98 [.sl (.int .u8) b] [] _
  refine Ev.out ?_
  repeat' (first | ((with_reducible refine Ev.mk ?_); conv => whnf) | (with_reducible refine And.intro ?_ ?_) | (intro h))
  all_goals (try simp only [decide_eq_true_eq, decide_eq_false_iff_not, beq_iff_eq, bne_iff_ne, beq_eq_false_iff_ne, bne_eq_false_iff_eq, Int.toNat_natCast, ge_iff_le, gt_iff_lt, Bool.not_eq_true', Bool.not_eq_false', Int.not_lt, Int.not_le, ne_eq] at *)
  all_goals (try dsimp only [Ty.den, Ty.dflt, VerT, sNew, sText, sSmall] at *)
  all_goals (try simp only [eq4, ne4, eq3, ne3, eq2, ne2, Prod.eta, List.length_cons, List.length_nil, List.length_append, Nat.zero_add] at *)
  all_goals (try simp (disch := omega) only [wrap64] at *)
  all_goals try first | exact leafDraw (by kernel_rfl) | exact Leaf.mk trivial | (refine Leaf.mk ?_; omega) | (refine Leaf.mk ?_; unfold maxLen; omega)
  generalize hN : (if 9 < (rdSmall (rdText b 0 16).2.1 (rdText b 0 16).2.2).1 then 9 else (rdSmall (rdText b 0 16).2.1 (rdText b 0 16).2.2).1) = N
  have hN9 : N ≤ 9 := by rw [← hN]; split <;> omega
  generalize hkey : (rdText b 0 16).1 = key
  generalize hb0 : (rdSmall (rdText b 0 16).2.1 (rdText b 0 16).2.2).2.1 = b0 at *
  generalize he0 : (rdSmall (rdText b 0 16).2.1 (rdText b 0 16).2.2).2.2 = e0
  have h0 : ∀ s, check s = 0 → putS s = b → key = s.1 ∧ N = s.2.length ∧ b0 = s.2.flatMap putV ∧ e0 = 0 := fun s hs hb => by
    have ok := check_ok.1 hs
    have h1 : rdText b 0 16 = (s.1, putSmall s.2.length ++ s.2.flatMap putV, 0) := by
      rw [← hb]; exact rdText_put (by have := ok.key; omega) _
    have h2 := rdSmall_put (n := s.2.length) (by omega) (by have := ok.len; omega) (s.2.flatMap putV)
    rw [h1] at hkey hb0 he0 hN
    dsimp only at hkey hb0 he0 hN
    rw [h2] at hb0 he0 hN
    dsimp only at hkey hb0 he0 hN
    have := ok.len
    exact ⟨hkey.symm, by rw [← hN, if_neg (by omega)], hb0.symm, he0.symm⟩
  refine LoopVC.weak [(.cell 2 1, .nil 121 VerT)] (fun a : Nat × List Int × Int × List Ver => [(18, .i .i64 a.1)]) (fun a => [(1, .box [.sl (.int .u8) a.2.1, .i .i64 a.2.2.1]), (3, .arr 121 VerT a.2.2.2)]) (fun a => a.1 ≤ 9 ∧ a.2.1 <:+ b ∧ a.2.2.2.length = a.1 ∧ ∀ s, check s = 0 → putS s = b → N = s.2.length ∧ key = s.1 ∧ a.1 ≤ s.2.length ∧ a.2.1 = (s.2.drop a.1).flatMap putV ∧ a.2.2.1 = 0 ∧ a.2.2.2 = s.2.take a.1) (fun a => 9 - a.1) (0, b0, e0, []) (Ev.mk ?_)
  (conv => whnf)
  refine ⟨Leaf.mk ?_, Leaf.mk ?_, ?_⟩
  · rfl
  · refine ⟨by simp, hb2.trans hb1, rfl, fun s hs hb => ?_⟩
    obtain ⟨h1, h2, h3, h4⟩ := h0 s hs hb
    exact ⟨h2, h1, Nat.zero_le _, h3, h4, rfl⟩
  intro ⟨i, rb, re, vs⟩ ⟨hi, hrb, hvl, hv⟩
  dsimp only at hi hrb hvl hv ⊢
  have hrl := suf_len hrb
  have hs1 := rdSmall_suf rb re
  have hs2 := rdSmall_suf (rdSmall rb re).2.1 (rdSmall rb re).2.2
  have hs3 := fun l => suf_len (rdText_suf l 0 24)
  have hs1l := suf_len hs1
  have hs2l := suf_len hs2
  repeat' (first | ((with_reducible refine Ev.mk ?_); conv => whnf) | (with_reducible refine And.intro ?_ ?_) | (intro h))
  all_goals (try simp only [decide_eq_true_eq, decide_eq_false_iff_not, beq_iff_eq, bne_iff_ne, beq_eq_false_iff_ne, bne_eq_false_iff_eq, Int.toNat_natCast, ge_iff_le, gt_iff_lt, Bool.not_eq_true', Bool.not_eq_false', Int.not_lt, Int.not_le, ne_eq] at *)
  all_goals (try dsimp only [Ty.den, Ty.dflt, VerT, sNew, sText, sSmall, sLeft, sDone] at *)
  all_goals (try simp only [eq4, ne4, eq3, ne3, eq2, ne2, Prod.eta, List.length_cons, List.length_nil, List.length_append, Nat.zero_add] at *)
  all_goals (try simp (disch := omega) only [wrap64] at *)
  all_goals try first | exact leafDraw (by kernel_rfl) | exact Leaf.mk trivial | (refine Leaf.mk ?_; omega) | (refine Leaf.mk ?_; unfold maxLen; omega)
  all_goals
    have hcut := suf_cut ((hs2.trans hs1).trans hrb)
    simp only [hcut] at *
    generalize hR : (rdSmall (rdSmall rb re).2.1 (rdSmall rb re).2.2).2.1 = R at *
  all_goals (try simp only [List.take_length, Int.reduceToNat] at *)
  -- what a stack's bytes would have been read as
  all_goals
    have hgo : ∀ s, check s = 0 → putS s = b → i < s.2.length → (rdSmall rb re).1 = (s.2.getD i ver0).1 ∧ (rdSmall (rdSmall rb re).2.1 (rdSmall rb re).2.2).1 = (s.2.getD i ver0).2.1 ∧ (rdSmall (rdSmall rb re).2.1 (rdSmall rb re).2.2).2.2 = 0 ∧ R = (if (s.2.getD i ver0).2.2.1 = true then 1 else 0) :: (putText (s.2.getD i ver0).2.2.2 ++ (s.2.drop (i + 1)).flatMap putV) := fun s hs hb hil => by
      obtain ⟨k1, k2, k3, k4, k5, k6⟩ := hv s hs hb
      have ok := (check_ok.1 hs).all _ (getD_mem ver0 hil)
      have e := flat_split hil []
      rw [List.append_nil, List.append_nil] at e
      have e1 : rdSmall rb re = ((s.2.getD i ver0).1, putSmall (s.2.getD i ver0).2.1 ++ ((if (s.2.getD i ver0).2.2.1 = true then 1 else 0) :: (putText (s.2.getD i ver0).2.2.2 ++ (s.2.drop (i + 1)).flatMap putV)), 0) := by
        rw [k4, k5, e]; exact rdSmall_put ok.txn.1 ok.txn.2 _
      rw [e1] at hR ⊢
      dsimp only at hR ⊢
      rw [rdSmall_put ok.ts.1 ok.ts.2] at hR ⊢
      exact ⟨rfl, rfl, rfl, hR.symm⟩
  all_goals (try have hlt : (i : Int) < N := by rw [← hN]; assumption)
  all_goals (try have hge : N ≤ (i : Int) := by rw [← hN]; assumption)
  · refine Leaf.mk (retG (u := (([], []), 4)) (v := getS b) ?_)
    rw [getS_not fun s hs hb => ?_]
    have hil := (hv s hs hb).1
    have := (hgo s hs hb (by omega)).2.2.2
    rw [this] at h
    simp at h
    omega
  · rename_i hdone
    refine Leaf.mk (retG (u := (([], []), 4)) (v := getS b) ?_)
    rw [getS_not fun s hs hb => ?_]
    have hil := (hv s hs hb).1
    obtain ⟨_, _, k3, k4⟩ := hgo s hs hb (by omega)
    have hd : ∀ x : Int, (if ¬ (rdSmall (rdSmall rb re).2.1 (rdSmall rb re).2.2).2.2 = 0 then x else if R.length = 0 then 0 else 4) = 4 := fun x => by
      rw [if_neg (fun hc => hc k3), if_neg (by omega)]
    exact hdone (hd _)
  · exact Leaf.mk (by rw [List.length_drop]; omega)
  · exact Leaf.mk (by rw [List.length_drop]; omega)
  · refine Leaf.mk ⟨(i + 1, _, _, _), rfl, ⟨by show i + 1 ≤ 9; omega, ?_, by simp; omega, fun s hs hb => ?_⟩, by show 9 - (i + 1) < _; omega⟩
    · exact (rdText_suf _ _ _).trans ((List.drop_suffix _ _).trans ((hs2.trans hs1).trans hrb))
    · obtain ⟨k1, k2, k3, k4, k5, k6⟩ := hv s hs hb
      have hil : i < s.2.length := by omega
      obtain ⟨m1, m2, m3, m4⟩ := hgo s hs hb hil
      have ok := (check_ok.1 hs).all _ (getD_mem ver0 hil)
      have e1 : rdText (R.drop 1) 0 24 = ((s.2.getD i ver0).2.2.2, (s.2.drop (i + 1)).flatMap putV, 0) := by
        rw [m4, List.drop_one, List.tail_cons]
        exact rdText_put (by have := ok.val; omega) _
      dsimp only
      rw [e1]
      refine ⟨k1, k2, by omega, rfl, rfl, ?_⟩
      rw [take_at ver0 hil, k6, m1, m2]
      have hg : (R.getD 0 0 == 1) = (s.2.getD i ver0).2.2.1 := by
        rw [m4]
        cases (s.2.getD i ver0).2.2.1 <;> rfl
      rw [hg]
  all_goals
    have hsame : ∀ s, check s = 0 → putS s = b → (key, vs) = s := fun s hs hb => by
      obtain ⟨k1, k2, k3, k4, k5, k6⟩ := hv s hs hb
      rw [k2, k6, List.take_of_length_le (by omega)]
  · refine Leaf.mk (retG (u := (([], []), 4)) (v := getS b) ?_)
    rw [getS_not fun s hs hb => ?_]
    exact putR11_not h (by rw [hsame s hs hb]; exact hs)
  · rename_i h0
    obtain ⟨k1, k2⟩ := putR11_zero h0
    refine Leaf.mk (retG (u := (([], []), 4)) (v := getS b) ?_)
    rw [getS_not fun s hs hb => ?_]
    have h : (strOfBytes b == strOfBytes (putR11 (key, vs)).1) = false := h
    rw [k2, hsame s hs hb, hb] at h
    exact eqSelf h
  · rename_i h0
    obtain ⟨k1, k2⟩ := putR11_zero h0
    have h : (strOfBytes b == strOfBytes (putR11 (key, vs)).1) = true := h
    rw [k2, beq_iff_eq] at h
    refine Leaf.mk (retG (u := ((key, vs), 0)) (v := getS b) ?_)
    rw [getS_put k1 (str_inj hB (isB_S _) h).symm]
end Go.Proofs.YtkmfjlfejdoehaaGreat

set_option linter.unusedVariables false
set_option linter.unusedSimpArgs false
set_option maxRecDepth 8000
set_option maxHeartbeats 4000000
namespace Go.Proofs.YtkmfjlfejdoehaaGreat
open Go.Eng
abbrev MsgT : Ty := .pair (.int .u8) (.pair .str (.pair (.int .i64) (.pair (.int .i64) (.pair .bool .str))))
abbrev Msg := Int × List UInt8 × Int × Int × Bool × List UInt8
abbrev msg0 : Msg := (0, [], 0, 0, false, [])
abbrev FldT : Ty := .pair .bool (.pair .bool .bool)
def ofK (k : Int) : Bool × Bool × Bool := (decide (k = 0), decide (k = 0 ∨ k = 1 ∨ k = 2), decide (k = 1 ∨ k = 3))
def sOf : PSpec := ⟨[.d (.int .u8)], [⟨true, [.d FldT]⟩], fun _ => True, fun x => ((ofK x.1, ()), ())⟩
theorem fOf : FnOk Tryz.prog 126 := ⟨_, Tryz.func126, by decide, rfl⟩
theorem pOf : PSound Tryz.prog 126 sOf := by
  refine psound (T := tab) (S := (spOf [])) (keep := k126) (by kernel_rfl) tabOk spNil (by kernel_rfl) Tryz.func126 (by kernel_rfl) (by decide) fun xs hg hp => ?_
  obtain ⟨k, ⟨⟩⟩ := xs
  change Int at k
  show vfun tab _ k126 Tryz.f126 [.i .u8 k] [] _
  refine Ev.out ?_
  repeat' (first | ((with_reducible refine Ev.mk ?_); conv => whnf) | (with_reducible refine And.intro ?_ ?_) | (intro h))
  all_goals (try simp only [decide_eq_true_eq, decide_eq_false_iff_not, beq_iff_eq, bne_iff_ne, beq_eq_false_iff_ne, bne_eq_false_iff_eq, Int.toNat_natCast, ge_iff_le, gt_iff_lt, Bool.not_eq_true', Bool.not_eq_false', Int.not_lt, Int.not_le, ne_eq] at *)
  all_goals (try dsimp only [Ty.den, Ty.dflt, MsgT] at *)
  all_goals (try simp only [eq4, ne4, eq3, ne3, eq2, ne2, Prod.eta, List.length_cons, List.length_nil, List.length_append, Nat.zero_add] at *)
  all_goals (try simp (disch := omega) only [wrap64] at *)
  all_goals
    refine Leaf.mk (ret1 (show _ = ofK k from ?_))
    unfold ofK
    simp_all
def sMIn : PSpec := sIn
theorem fMIn : FnOk Tryz.prog 127 := ⟨_, Tryz.func127, by decide, rfl⟩
theorem pMIn : PSound Tryz.prog 127 sMIn := by
  refine psound (T := tab) (S := (spOf [])) (keep := k127) (by kernel_rfl) tabOk spNil (by kernel_rfl) Tryz.func127 (by kernel_rfl) (by decide) fun xs hg hp => ?_
  obtain ⟨n, ⟨⟩⟩ := xs
  change Int at n
  show vfun tab _ k127 Tryz.f127 [.i .i64 n] [] _
  refine Ev.out ?_
  repeat' (first | ((with_reducible refine Ev.mk ?_); conv => whnf) | (with_reducible refine And.intro ?_ ?_) | (intro h))
  all_goals (try simp only [decide_eq_true_eq, decide_eq_false_iff_not, beq_iff_eq, bne_iff_ne, beq_eq_false_iff_ne, bne_eq_false_iff_eq, Int.toNat_natCast, ge_iff_le, gt_iff_lt, Bool.not_eq_true', Bool.not_eq_false', Int.not_lt, Int.not_le, ne_eq] at *)
  all_goals (try dsimp only [Ty.den, Ty.dflt, VerT] at *)
  all_goals (try simp only [eq4, ne4, eq3, ne3, eq2, ne2, Prod.eta, List.length_cons, List.length_nil, List.length_append, Nat.zero_add] at *)
  all_goals (try simp (disch := omega) only [wrap64] at *)
  all_goals
    refine Leaf.mk (ret1 (show _ = inB n from ?_))
    simp only [inB]
    first
    | (rw [decide_eq_false (p := 0 ≤ n ∧ n ≤ 1099511627776) (by omega)]; done)
    | (congr 1; simp only [eq_iff_iff]; omega)
def mForm (m : Msg) : Prop := (m.1 = 0 ∨ (m.2.2.2.2.1 = false ∧ m.2.1.length = 0 ∧ m.2.2.2.2.2.length = 0)) ∧ (m.1 = 3 → m.2.2.1 = 0) ∧ (m.1 = 0 ∨ m.1 = 2 → m.2.2.2.1 = 0) ∧ (m.2.2.2.2.1 = false ∨ m.2.2.2.2.2.length = 0)
instance (m : Msg) : Decidable (mForm m) := by unfold mForm; infer_instance
def mcheck (m : Msg) : Int := if 3 < m.1 then 13 else if ¬ mForm m then 4 else if ¬ (inB m.2.2.1 = true ∧ inB m.2.2.2.1 = true) ∨ (m.1 = 1 ∧ m.2.2.2.1 = 0) then 9 else if 16 < m.2.1.length ∨ 24 < m.2.2.2.2.2.length then 5 else 0
def sMCheck : PSpec := ⟨[.d MsgT], [⟨false, [.d (.int .i64)]⟩], fun _ => True, fun x => ((mcheck x.1, ()), ())⟩
theorem fMCheck : FnOk Tryz.prog 65 := ⟨_, Tryz.func65, by decide, rfl⟩
theorem pMCheck : PSound Tryz.prog 65 sMCheck := by
  refine psound (T := tab) (S := (spOf [(126, sOf.spec (lsOf [])), (127, sMIn.spec (lsOf []))])) (keep := k65) (by kernel_rfl) tabOk (spCons (pOk pOf fOf (by decide) lsNil) (spCons (pOk pMIn fMIn (by decide) lsNil) spNil)) (by kernel_rfl) Tryz.func65 (by kernel_rfl) (by decide) fun xs hg hp => ?_
  obtain ⟨⟨kind, key, txn, ts, gone, val⟩, ⟨⟩⟩ := xs
  obtain ⟨⟨hk, hkl, htx, hts, -, hvl⟩, -⟩ := hg
  change List UInt8 at key
  change List UInt8 at val
  change Int at kind txn ts
  change Bool at gone
  change key.length ≤ _ at hkl
  change val.length ≤ _ at hvl
  have hkl := len63 hkl
  have hvl := len63 hvl
  have hk := bdu8 hk
  show vfun tab _ k65 Tryz.f65 [.agg [.i .u8 kind, .s key, .i .i64 txn, .i .i64 ts, .b gone, .s val]] [] _
  refine Ev.out ?_
  repeat' (first | ((with_reducible refine Ev.mk ?_); conv => whnf) | (with_reducible refine And.intro ?_ ?_) | (intro h))
  all_goals (try simp only [decide_eq_true_eq, decide_eq_false_iff_not, beq_iff_eq, bne_iff_ne, beq_eq_false_iff_ne, bne_eq_false_iff_eq, Int.toNat_natCast, ge_iff_le, gt_iff_lt, Bool.not_eq_true', Bool.not_eq_false', Int.not_lt, Int.not_le, ne_eq] at *)
  all_goals (try dsimp only [Ty.den, Ty.dflt, MsgT, sOf, ofK, sMIn, sIn] at *)
  all_goals (try simp only [eq4, ne4, eq3, ne3, eq2, ne2, Prod.eta, List.length_cons, List.length_nil, List.length_append, Nat.zero_add] at *)
  all_goals (try simp (disch := omega) only [wrap64] at *)
  all_goals try first | exact leafDraw (by kernel_rfl) | exact Leaf.mk trivial | (refine Leaf.mk ?_; omega) | (refine Leaf.mk ?_; unfold maxLen; omega)
  all_goals try simp only [← List.length_eq_zero_iff] at *
  all_goals try simp only [inB, decide_eq_true_eq, decide_eq_false_iff_not] at *
  all_goals
    refine Leaf.mk (ret1 (show (_ : Int) = mcheck (kind, key, txn, ts, gone, val) from ?_))
    simp only [mcheck, mForm, inB, decide_eq_true_eq]
    cases gone
  all_goals try simp only [reduceCtorEq, false_and, true_and, and_true, or_true, true_or, false_or, or_false, not_true_eq_false, not_false_eq_true] at *
  all_goals
    repeat' split
  all_goals first | rfl | (exfalso; omega)
def sMCheckR : PSpec := sMCheck
def onlyF (m : Msg) : Msg := if m.1 = 0 then (m.1, m.2.1, m.2.2.1, 0, m.2.2.2.2.1, if m.2.2.2.2.1 = true then [] else m.2.2.2.2.2) else if m.1 = 1 then (m.1, [], m.2.2.1, m.2.2.2.1, false, []) else if m.1 = 2 then (m.1, [], m.2.2.1, 0, false, []) else if m.1 = 3 then (m.1, [], 0, m.2.2.2.1, false, []) else (m.1, [], 0, 0, false, [])
def sOnly : PSpec := ⟨[.d MsgT], [⟨true, [.d MsgT]⟩], fun _ => True, fun x => ((onlyF x.1, ()), ())⟩
theorem fOnly : FnOk Tryz.prog 134 := ⟨_, Tryz.func134, by decide, rfl⟩
theorem pOnly : PSound Tryz.prog 134 sOnly := by
  refine psound (T := tab) (S := (spOf [])) (keep := k134) (by kernel_rfl) tabOk spNil (by kernel_rfl) Tryz.func134 (by kernel_rfl) (by decide) fun xs hg hp => ?_
  obtain ⟨⟨kind, key, txn, ts, gone, val⟩, ⟨⟩⟩ := xs
  obtain ⟨⟨hk, hkl, htx, hts, -, hvl⟩, -⟩ := hg
  change List UInt8 at key
  change List UInt8 at val
  change Int at kind txn ts
  change Bool at gone
  change key.length ≤ _ at hkl
  change val.length ≤ _ at hvl
  have hkl := len63 hkl
  have hvl := len63 hvl
  have hk := bdu8 hk
  show vfun tab _ k134 Tryz.f134 [.agg [.i .u8 kind, .s key, .i .i64 txn, .i .i64 ts, .b gone, .s val]] [] _
  refine Ev.out ?_
  repeat' (first | ((with_reducible refine Ev.mk ?_); conv => whnf) | (with_reducible refine And.intro ?_ ?_) | (intro h))
  all_goals (try simp only [decide_eq_true_eq, decide_eq_false_iff_not, beq_iff_eq, bne_iff_ne, beq_eq_false_iff_ne, bne_eq_false_iff_eq, Int.toNat_natCast, ge_iff_le, gt_iff_lt, Bool.not_eq_true', Bool.not_eq_false', Int.not_lt, Int.not_le, ne_eq] at *)
  all_goals (try dsimp only [Ty.den, Ty.dflt, MsgT] at *)
  all_goals (try simp only [eq4, ne4, eq3, ne3, eq2, ne2, Prod.eta, List.length_cons, List.length_nil, List.length_append, Nat.zero_add] at *)
  all_goals (try simp (disch := omega) only [wrap64] at *)
  all_goals try first | exact leafDraw (by kernel_rfl) | exact Leaf.mk trivial | (refine Leaf.mk ?_; omega) | (refine Leaf.mk ?_; unfold maxLen; omega)
  all_goals
    refine Leaf.mk (ret1 (show (_ : Msg) = onlyF (kind, key, txn, ts, gone, val) from ?_))
    unfold onlyF
    simp_all
section
variable {α β γ δ ε ζ : Type} [BEq α] [LawfulBEq α] [BEq β] [LawfulBEq β] [BEq γ] [LawfulBEq γ] [BEq δ] [LawfulBEq δ] [BEq ε] [LawfulBEq ε] [BEq ζ] [LawfulBEq ζ]
theorem eq6 {x y : α × β × γ × δ × ε × ζ} : (x.1 == y.1 && (x.2.1 == y.2.1 && (x.2.2.1 == y.2.2.1 && (x.2.2.2.1 == y.2.2.2.1 && (x.2.2.2.2.1 == y.2.2.2.2.1 && x.2.2.2.2.2 == y.2.2.2.2.2))))) = true ↔ x = y := by
  obtain ⟨a, b, e, g, i, j⟩ := x; obtain ⟨c, d, f, k, l, m⟩ := y
  simp
theorem ne6 {x y : α × β × γ × δ × ε × ζ} : (x.1 == y.1 && (x.2.1 == y.2.1 && (x.2.2.1 == y.2.2.1 && (x.2.2.2.1 == y.2.2.2.1 && (x.2.2.2.2.1 == y.2.2.2.2.1 && x.2.2.2.2.2 == y.2.2.2.2.2))))) = false ↔ ¬ x = y := by
  rw [← eq6, Bool.not_eq_true]
end
theorem only_iff {m : Msg} (h0 : 0 ≤ m.1) (h3 : m.1 ≤ 3) : m = onlyF m ↔ mForm m := by
  obtain ⟨kind, key, txn, ts, gone, val⟩ := m
  dsimp only at h0 h3
  unfold onlyF mForm
  dsimp only
  simp only [List.length_eq_zero_iff]
  rcases (by omega : kind = 0 ∨ kind = 1 ∨ kind = 2 ∨ kind = 3) with rfl | rfl | rfl | rfl <;> cases gone <;> simp [Prod.ext_iff] <;> grind
theorem fMCheckR : FnOk Tryz.prog 70 := ⟨_, Tryz.func70, by decide, rfl⟩
theorem pMCheckR : PSound Tryz.prog 70 sMCheckR := by
  refine psound (T := tab) (S := (spOf [(134, sOnly.spec (lsOf []))])) (keep := k70) (by kernel_rfl) tabOk (spCons (pOk pOnly fOnly (by decide) lsNil) spNil) (by kernel_rfl) Tryz.func70 (by kernel_rfl) (by decide) fun xs hg hp => ?_
  obtain ⟨⟨kind, key, txn, ts, gone, val⟩, ⟨⟩⟩ := xs
  obtain ⟨⟨hk, hkl, htx, hts, -, hvl⟩, -⟩ := hg
  change List UInt8 at key
  change List UInt8 at val
  change Int at kind txn ts
  change Bool at gone
  change key.length ≤ _ at hkl
  change val.length ≤ _ at hvl
  have hkl := len63 hkl
  have hvl := len63 hvl
  have hk := bdu8 hk
  show vfun tab _ k70 Tryz.f70 [.agg [.i .u8 kind, .s key, .i .i64 txn, .i .i64 ts, .b gone, .s val]] [] _
  refine Ev.out ?_
  repeat' (first | ((with_reducible refine Ev.mk ?_); conv => whnf) | (with_reducible refine And.intro ?_ ?_) | (intro h))
  all_goals (try simp only [decide_eq_true_eq, decide_eq_false_iff_not, beq_iff_eq, bne_iff_ne, beq_eq_false_iff_ne, bne_eq_false_iff_eq, Int.toNat_natCast, ge_iff_le, gt_iff_lt, Bool.not_eq_true', Bool.not_eq_false', Int.not_lt, Int.not_le, ne_eq] at *)
  all_goals (try dsimp only [Ty.den, Ty.dflt, MsgT, sOnly] at *)
  all_goals (try simp only [eq4, ne4, eq3, ne3, eq2, ne2, Prod.eta, List.length_cons, List.length_nil, List.length_append, Nat.zero_add] at *)
  all_goals (try simp (disch := omega) only [wrap64] at *)
  all_goals try first | exact leafDraw (by kernel_rfl) | exact Leaf.mk trivial | (refine Leaf.mk ?_; omega) | (refine Leaf.mk ?_; unfold maxLen; omega)
  all_goals try (have h9 := (only_iff (m := (kind, key, txn, ts, gone, val)) hk.1 (by dsimp only; omega)).1 (eq6.1 ‹(_ && _) = true›); simp only [mForm] at h9)
  all_goals try (have h9 := (not_congr (only_iff (m := (kind, key, txn, ts, gone, val)) hk.1 (by dsimp only; omega))).1 (ne6.1 ‹(_ && _) = false›); simp only [mForm] at h9)
  all_goals try simp only [inB, decide_eq_true_eq, decide_eq_false_iff_not] at *
  all_goals
    refine Leaf.mk (ret1 (show (_ : Int) = mcheck (kind, key, txn, ts, gone, val) from ?_))
    simp only [mcheck, mForm, inB, decide_eq_true_eq]
    cases gone
  all_goals try simp only [reduceCtorEq, false_and, true_and, and_true, or_true, true_or, false_or, or_false, not_true_eq_false, not_false_eq_true] at *
  all_goals
    repeat' split
  all_goals first | rfl | (exfalso; omega)
end Go.Proofs.YtkmfjlfejdoehaaGreat

set_option linter.unusedVariables false
set_option linter.unusedSimpArgs false
set_option maxRecDepth 8000
set_option maxHeartbeats 4000000
namespace Go.Proofs.YtkmfjlfejdoehaaGreat
open Go.Eng
abbrev MsT : Ty := .slice MsgT
end Go.Proofs.YtkmfjlfejdoehaaGreat
