import Derived.Test.YtbobjiaggngbmaaQ9
import Derived.WalkKit
import Derived.Test.YtbobjiaggngbmaaQ8
import Derived.Test.YtbobjiaggngbmaaEng4
/- Texts, one behind the other. -/
set_option linter.unusedVariables false
set_option linter.unusedSimpArgs false
set_option maxRecDepth 8000
set_option maxHeartbeats 4000000
namespace Go.Proofs.Ytbobjiaggngbmaa
open Go.Eng
section
open Go.Proofs Go.RowKit Go.Shelf Go.Lib Go.Sort
set_option maxRecDepth 100000 in
theorem clipR_w (A : Option Addr) (n cap : Nat) (hn : n ≤ cap) (w : World) : Calls Try.prog 43 #[.slice A n cap] w fun e w' => e = .returned (.slice A n n) ∧ w' = w := by
  go_enter Try.func43, Try.ntmps43
  go_wp2
  go_ret
  exact ⟨rfl, rfl⟩
end
def clipSpec (e : Ty) : Eng.Spec := ⟨fun args h fresh => match args with
  | [.sl e' xs] => match castL e' e xs with
    | some xs => some ([], .os e true xs, [])
    | none => none
  | [.nil] => some ([], .os e true [], [])
  | _ => none, fun _ _ _ => none, noK, noT⟩
theorem clipSpec_ok {P : Program} {f : FuncId} {e : Ty} (hw : ∀ (A : Option Addr) (n cap : Nat), n ≤ cap → ∀ w : World, Calls P f #[.slice A n cap] w fun e w' => e = .returned (.slice A n n) ∧ w' = w) : SpecOk P f (clipSpec e) := by
  refine ⟨?_, fun C w g h fresh args vals c v h' hP R hf hv hs hc => by simp [clipSpec] at hs, fun C w g h fresh args vals K hP R hf hu hv hs => (show False from hs).elim, fun _ _ _ _ _ _ _ _ _ _ _ _ _ _ _ _ _ hs _ => (by cases (show (none : Option (List Prop × V × Nat × Eng.Obj)) = some _ from hs)), fun _ _ _ _ _ _ _ hs => (by cases (show (none : Option (List Prop × V × Nat × Eng.Obj)) = some _ from hs))⟩
  intro C w g h fresh args vals c v news hP R hfr hv hs hc
  simp only [clipSpec] at hs
  split at hs
  · rename_i e' xs'
    split at hs
    rotate_left
    · simp at hs
    rename_i xs hcast
    obtain ⟨rfl, hxs⟩ := castL_eq hcast
    simp at hxs
    subst hxs
    simp only [Option.some.injEq, Prod.mk.injEq] at hs
    obtain ⟨rfl, rfl, rfl⟩ := hs
    simp only [RVs] at hv
    obtain ⟨x, xl, rfl, hx, rfl⟩ := hv
    simp only [RV] at hx
    obtain ⟨A, cap, h1, h2, h3, h4, h5⟩ := hx
    obtain rfl : x = .slice A xs'.length cap := by simpa using h1
    refine (hw A xs'.length cap (by omega) w).mono ?_
    rintro e2 w2 ⟨rfl, rfl⟩
    refine ⟨_, g, rfl, QRes.pure ?_⟩
    simp only [RV]
    exact ⟨⟨A, xs'.length, rfl, Nat.le_refl _, by omega, fun h => by have := h4 h; omega, h5⟩, fun _ => ⟨A, rfl⟩⟩
  · simp only [Option.some.injEq, Prod.mk.injEq] at hs
    obtain ⟨rfl, rfl, rfl⟩ := hs
    simp only [RVs] at hv
    obtain ⟨x, xl, rfl, hx, rfl⟩ := hv
    simp only [RV] at hx
    subst hx
    refine (hw none 0 0 (Nat.le_refl _) w).mono ?_
    rintro e2 w2 ⟨rfl, rfl⟩
    refine ⟨_, g, rfl, QRes.pure ?_⟩
    simp only [RV]
    exact ⟨⟨none, 0, rfl, Nat.le_refl _, Nat.zero_le _, fun _ => rfl, fun i hi => by simp at hi⟩, fun _ => ⟨none, rfl⟩⟩
  · simp at hs
def iClipR : Eng.Spec := clipSpec RgT
theorem fClipR : FnOk Try.prog 43 := ⟨_, Try.func43, by decide, rfl⟩
theorem pClipR : SpecOk Try.prog 43 iClipR := clipSpec_ok clipR_w
theorem pK_single (l : List Rg) (r : Rg) : madeR (l ++ [r]) [] 0 = madeR l [r] 0 := made_uniq (madeR_ok _ _ _).1 fun k => by
  rw [(madeR_ok _ _ _).2]
  simp only [pK, has_app, has_nil, Bool.or_false]
  rfl
def sAddA : PSpec := ⟨[.d RgsT, .d RgT], [⟨false, [.o 29 RgT]⟩], fun x => List.length x.1 ≤ 10000, fun x => ((madeR x.1 [x.2.1] 0, ()), ())⟩
theorem fAddA : FnOk Try.prog 14 := ⟨_, Try.func14, by decide, rfl⟩
theorem pAddA : PSound Try.prog 14 sAddA := by
  refine psound (T := (exT tab)) (S := (spOf [(43, iClipR), (12, sPlainA.spec (lsOf []))])) (keep := k14) (by kernel_rfl) (exT_ok tabOk) (spCons (.inl ⟨pClipR, fClipR⟩) (spCons (pOk pPlainA fPlainA (by decide) lsNil) spNil)) (by kernel_rfl) Try.func14 (by kernel_rfl) (by decide) fun xs hg hp => ?_
  obtain ⟨l, ⟨lo, hi⟩, ⟨⟩⟩ := xs
  change List Rg at l
  change List UInt8 at lo hi
  change l.length ≤ 10000 at hp
  clear hg
  show vfun (exT tab) _ k14 Try.f14 [.sl RgT l, .agg [.s lo, .s hi]] [] _
  refine Ev.out ?_
  repeat' (first | ((with_reducible refine Ev.mk ?_); conv => whnf) | (with_reducible refine And.intro ?_ ?_) | (intro h))
  all_goals (try simp only [decide_eq_true_eq, decide_eq_false_iff_not, beq_iff_eq, bne_iff_ne, beq_eq_false_iff_ne, bne_eq_false_iff_eq, Int.toNat_natCast, ge_iff_le, gt_iff_lt, Bool.not_eq_true', Bool.not_eq_false', Int.not_lt, Int.not_le, ne_eq] at *)
  all_goals (try dsimp only [Ty.den, Ty.dflt, RgT, sPlainA] at *)
  all_goals (try simp only [eq4, ne4, eq3, ne3, eq2, ne2, Prod.eta, List.length_cons, List.length_nil, List.length_append, Nat.zero_add] at *)
  all_goals (try simp (disch := omega) only [wrap64] at *)
  all_goals try first | exact leafDraw (by kernel_rfl) | exact Leaf.mk trivial | (refine Leaf.mk ?_; omega) | (refine Leaf.mk ?_; unfold maxLen; omega)
  all_goals exact Leaf.mk (ret1 (pK_single l (lo, hi)))
theorem madeF_len (p : Str → Bool) : ∀ (es : List Str) (o : Option Str), (madeF p o es).length ≤ es.length + 1
  | [], none => by simp [madeF]
  | [], some lo => by simp [madeF]
  | e :: es, none => by
    rw [madeF]; split
    · have := madeF_len p es (some e); simp only [List.length_cons]; omega
    · have := madeF_len p es none; simp only [List.length_cons]; omega
  | e :: es, some lo => by
    rw [madeF]; split
    · have := madeF_len p es (some lo); simp only [List.length_cons]; omega
    · have := madeF_len p es none; simp only [List.length_cons]; omega
theorem addK_lenR (l : List Str) (k : Str) : (addK l k).length ≤ l.length + 1 := by
  unfold addK
  split
  · omega
  · simp only [List.length_append, List.length_take, List.length_drop, List.length_singleton]; omega
theorem foldK_len : ∀ (ks l : List Str), (ks.foldl addK l).length ≤ l.length + ks.length
  | [], l => by simp
  | k :: ks, l => by
    have h1 := foldK_len ks (addK l k)
    have h2 := addK_lenR l k
    rw [List.foldl_cons, List.length_cons]; omega
theorem endsR_len (l : List Rg) : (endsR l).length ≤ 2 * l.length + 1 := by
  unfold endsR
  have h1 := foldK_len (l.flatMap fun r => [r.1, r.2]) [[]]
  have h2 : (l.flatMap fun r => [r.1, r.2]).length = 2 * l.length := by
    induction l with
    | nil => rfl
    | cons r t ih => rw [List.flatMap_cons, List.length_append, ih (foldK_len _ _), List.length_cons]; simp; omega
  rw [h2] at h1
  simp only [List.length_singleton] at h1
  omega
theorem madeR_len (a b : List Rg) (k : Int) : (madeR a b k).length ≤ 2 * (a.length + b.length) + 2 := by
  unfold madeR
  have h1 := madeF_len (pK a b k) (endsR (a ++ b)) none
  have h2 := endsR_len (a ++ b)
  rw [List.length_append] at h2
  omega
theorem turnF_len : ∀ (l : List Rg) (f : Str), (turnF f l).length ≤ l.length + 1
  | [], f => by simp [turnF]
  | r :: t, f => by
    have h1 := turnF_len t r.2
    rw [turnF, List.length_append, List.length_cons]
    have h2 : (if ¬ r.1 = [] ∧ emptyR (f, r.1) = false then [(f, r.1)] else [] : List Rg).length ≤ 1 := by split <;> simp
    have h3 : (if r.2 = [] then [] else turnF r.2 t : List Rg).length ≤ t.length + 1 := by
      by_cases h : r.2 = []
      · rw [if_pos h]; exact Nat.zero_le _
      · rw [if_neg h]; exact h1
    omega
def sTurnA : PSpec := ⟨[.d RgsT], [⟨false, [.o 29 RgT]⟩], fun x => List.length x.1 ≤ 100000, fun x => ((turnF [] x.1, ()), ())⟩
theorem fTurnA : FnOk Try.prog 68 := ⟨_, Try.func68, by decide, rfl⟩
theorem pTurnA : PSound Try.prog 68 sTurnA := by
  refine psound (T := tab) (S := (spOf [(40, sEmpty.spec (lsOf [])), (41, sEndless.spec (lsOf []))])) (keep := k68) (by kernel_rfl) tabOk (spCons (pOk pEmpty fEmpty (by decide) lsNil) (spCons (pOk pEndless fEndless (by decide) lsNil) spNil)) (by kernel_rfl) Try.func68 (by kernel_rfl) (by decide) fun xs hg hp => ?_
  obtain ⟨l, ⟨⟩⟩ := xs
  change List Rg at l
  change l.length ≤ 100000 at hp
  clear hg
  show vfun tab _ k68 Try.f68 [.sl RgT l] [] _
  refine Ev.out ?_
  repeat' (first | ((with_reducible refine Ev.mk ?_); conv => whnf) | (with_reducible refine And.intro ?_ ?_) | (intro h))
  all_goals (try simp only [decide_eq_true_eq, decide_eq_false_iff_not, beq_iff_eq, bne_iff_ne, beq_eq_false_iff_ne, bne_eq_false_iff_eq, Int.toNat_natCast, ge_iff_le, gt_iff_lt, Bool.not_eq_true', Bool.not_eq_false', Int.not_lt, Int.not_le, ne_eq] at *)
  all_goals (try dsimp only [Ty.den, Ty.dflt, RgT, sEmpty, sEndless] at *)
  all_goals (try simp only [eq4, ne4, eq3, ne3, eq2, ne2, Prod.eta, List.length_cons, List.length_nil, List.length_append, Nat.zero_add] at *)
  all_goals (try simp (disch := omega) only [wrap64] at *)
  all_goals try first | exact leafDraw (by kernel_rfl) | exact Leaf.mk trivial | (refine Leaf.mk ?_; omega) | (refine Leaf.mk ?_; unfold maxLen; omega)
  refine LoopVC.weak [(.slot 3, .nil 29 RgT)] (fun a : Nat × Str × List Rg => [(11, .i .i64 a.1)]) (fun a => [(0, .arr 29 RgT a.2.2), (1, .box [.s a.2.1, .s []])]) (fun a => a.1 ≤ l.length ∧ a.2.2.length ≤ a.1 ∧ a.2.2 ++ turnF a.2.1 (l.drop a.1) = turnF [] l) (fun a => l.length - a.1) (0, [], []) (Ev.mk ?_)
  (conv => whnf)
  refine ⟨Leaf.mk rfl, Leaf.mk ?_, ?_⟩
  · exact ⟨Nat.zero_le _, Nat.zero_le _, rfl⟩
  rintro ⟨i, f, o⟩ ⟨hi, ho, he⟩
  dsimp only at hi ho he
  dsimp only
  have hst : ∀ h : i < l.length, o ++ ((if ¬ (l.getD i ([], [])).1 = [] ∧ emptyR (f, (l.getD i ([], [])).1) = false then [(f, (l.getD i ([], [])).1)] else []) ++ (if (l.getD i ([], [])).2 = [] then [] else turnF (l.getD i ([], [])).2 (l.drop (i + 1)))) = turnF [] l := fun h => by
    rw [← he, drop_at rg0 h]; rfl
  have hend : l.length ≤ i → o ++ [(f, [])] = turnF [] l := fun h => by
    rw [← he, drop_end h]; rfl
  clear he
  repeat' (first | ((with_reducible refine Ev.mk ?_); conv => whnf) | (with_reducible refine And.intro ?_ ?_) | (intro h))
  all_goals (try simp only [decide_eq_true_eq, decide_eq_false_iff_not, beq_iff_eq, bne_iff_ne, beq_eq_false_iff_ne, bne_eq_false_iff_eq, Int.toNat_natCast, ge_iff_le, gt_iff_lt, Bool.not_eq_true', Bool.not_eq_false', Int.not_lt, Int.not_le, ne_eq] at *)
  all_goals (try dsimp only [Ty.den, Ty.dflt, RgT, sEmpty, sEndless] at *)
  all_goals (try simp only [eq4, ne4, eq3, ne3, eq2, ne2, Prod.eta, List.length_cons, List.length_nil, List.length_append, Nat.zero_add] at *)
  all_goals (try simp (disch := omega) only [wrap64] at *)
  all_goals try first | exact leafDraw (by kernel_rfl) | exact Leaf.mk trivial | (refine Leaf.mk ?_; omega) | (refine Leaf.mk ?_; unfold maxLen; omega)
  all_goals try first
    | exact Leaf.mk (ret1 (show o ++ [(f, [])] = turnF [] l from hend (by omega)))
    | (refine Leaf.mk ?_; rw [List.length_singleton]; omega)
    | (refine Leaf.mk ?_; rw [List.length_singleton]; unfold maxLen; omega)
  all_goals
    have h9 := hst (by omega)
    clear hst hend
    generalize l.getD i ([], []) = r at *
    first
    | rw [if_pos ⟨by assumption, by assumption⟩] at h9
    | rw [if_neg (fun hc => by simp_all)] at h9
    first
    | rw [if_pos (endR_yes (by assumption)), List.append_nil] at h9
    | rw [if_neg (endR_no (by assumption))] at h9
    try rw [List.append_nil] at h9
    try rw [List.nil_append] at h9
    first
    | exact Leaf.mk (ret1 (show _ = turnF [] l from h9))
    | exact Leaf.mk ⟨(i + 1, r.2, o), rfl, ⟨by show i + 1 ≤ l.length; omega, by show List.length (α := Rg) o ≤ i + 1; omega, h9⟩, by show _ - (i + 1) < _; omega⟩
    | exact Leaf.mk ⟨(i + 1, r.2, o ++ [(f, r.1)]), rfl, ⟨by show i + 1 ≤ _; omega, by show List.length (o ++ [(f, r.1)]) ≤ i + 1; rw [List.length_append, List.length_singleton]; omega, (List.append_assoc _ _ _).trans h9⟩, by show _ - (i + 1) < _; omega⟩
theorem both_made2 (a b : List Rg) : bothF ((madeR a [] 0).length + (madeR b [] 0).length) (madeR a [] 0) (madeR b [] 0) = madeR a b 1 := by
  have h : ∀ l k, hasRg (madeR l [] 0) k = hasRg l k := fun l k => by rw [(madeR_ok l [] 0).2, pK, if_neg (by decide), if_neg (by decide), has_nil, Bool.or_false]
  exact both_made (madeR_ok _ _ _).1 (madeR_ok _ _ _).1 (h a) (h b) (Nat.le_refl _)
theorem both_cons (u v : Rg) (x y : List Rg) : bothF ((u :: x).length + (v :: y).length) (u :: x) (v :: y) = (if emptyR (meetR u v) = true then [] else [meetR u v]) ++ (if advR u v then bothF (x.length + (v :: y).length) x (v :: y) else bothF ((u :: x).length + y.length) (u :: x) y) := by
  have e1 : (u :: x).length + (v :: y).length = (x.length + (v :: y).length) + 1 := by simp only [List.length_cons]; omega
  have e2 : (u :: x).length + y.length = x.length + (v :: y).length := by simp only [List.length_cons]; omega
  rw [e2, e1, bothF]
theorem maxIf {a b : Str} {i : Decidable (sless a b = false)} : @ite _ (sless a b = false) i a b = maxS a b := by
  unfold maxS
  by_cases h : sless a b = true
  · rw [if_pos h, if_neg (by rw [h]; simp)]
  · rw [if_neg h, if_pos (by simpa using h)]
theorem minIf {a b : Str} {i : Decidable ((sless a b || a == b) = true)} : @ite _ ((sless a b || a == b) = true) i a b = minS a b := by
  unfold minS
  by_cases h : sless b a = true
  · rw [if_pos h, if_neg]
    rw [Bool.or_eq_true, sless_iff, beq_iff_eq]
    rw [sless_iff] at h
    rintro (h1 | h1)
    · exact slt_asymm h h1
    · rw [h1] at h; exact slt_irrefl _ h
  · rw [if_neg h]
    by_cases h1 : (sless a b || a == b) = true
    · rw [if_pos h1]
    · rw [if_neg h1]
      rw [Bool.or_eq_true, sless_iff, beq_iff_eq] at h1
      rw [sless_iff] at h
      exact absurd (slt_total (fun h2 => h1 (.inl h2)) h) (fun h3 => h1 (.inr h3))
theorem meet_max {u v : Rg} {i1 : Decidable (sless u.1 v.1 = false)} {i2 : Decidable (sless u.2 v.2 = false)} (h : endR u = true ∨ endR v = true) : (@ite _ (sless u.1 v.1 = false) i1 u.1 v.1, @ite _ (sless u.2 v.2 = false) i2 u.2 v.2) = meetR u v := by
  unfold meetR
  rw [maxIf, maxIf, if_pos (h.imp endR_yes endR_yes)]
theorem meet_min {u v : Rg} {i1 : Decidable (sless u.1 v.1 = false)} {i2 : Decidable ((sless u.2 v.2 || u.2 == v.2) = true)} (h1 : endR u = false) (h2 : endR v = false) : (@ite _ (sless u.1 v.1 = false) i1 u.1 v.1, @ite _ ((sless u.2 v.2 || u.2 == v.2) = true) i2 u.2 v.2) = meetR u v := by
  unfold meetR
  rw [maxIf, minIf, if_neg (fun h => h.elim (endR_no h1) (endR_no h2))]
theorem meet_is {u v q : Rg} {z : Bool} (h : emptyR q = z) (hq : q = meetR u v) : emptyR (meetR u v) = z := hq ▸ h
theorem adv1 {u v : Rg} (h1 : endR u = false) (h2 : endR v = true) : advR u v := ⟨endR_no h1, .inl (endR_yes h2)⟩
theorem adv2 {u v : Rg} (h1 : endR u = false) (h2 : (sless u.2 v.2 || u.2 == v.2) = true) : advR u v := ⟨endR_no h1, .inr fun hc => by
  rw [Bool.or_eq_true, sless_iff, beq_iff_eq] at h2
  rcases h2 with h2 | h2
  · exact slt_asymm h2 hc
  · rw [h2] at hc; exact slt_irrefl _ hc⟩
theorem adv3 {u v : Rg} (h1 : endR u = true) : ¬ advR u v := fun h => h.1 (endR_yes h1)
theorem adv4 {u v : Rg} (h1 : endR v = false) (h2 : (sless u.2 v.2 || u.2 == v.2) = false) : ¬ advR u v := fun h => by
  rw [Bool.or_eq_false_iff, ← Bool.not_eq_true, sless_iff, beq_eq_false_iff_ne] at h2
  rcases h.2 with h3 | h3
  · exact endR_no h1 h3
  · exact h2.2 (slt_total h2.1 h3)
def sBothA : PSpec := ⟨[.d RgsT, .d RgsT], [⟨false, [.o 29 RgT]⟩], fun x => List.length x.1 ≤ 10000 ∧ List.length x.2.1 ≤ 10000, fun x => ((madeR x.1 x.2.1 1, ()), ())⟩
theorem fBothA : FnOk Try.prog 18 := ⟨_, Try.func18, by decide, rfl⟩
theorem pBothA : PSound Try.prog 18 sBothA := by
  refine psound (T := tab) (S := (spOf [(12, sPlainA.spec (lsOf [])), (40, sEmpty.spec (lsOf [])), (41, sEndless.spec (lsOf []))])) (keep := k18) (by kernel_rfl) tabOk (spCons (pOk pPlainA fPlainA (by decide) lsNil) (spCons (pOk pEmpty fEmpty (by decide) lsNil) (spCons (pOk pEndless fEndless (by decide) lsNil) spNil))) (by kernel_rfl) Try.func18 (by kernel_rfl) (by decide) fun xs hg hp => ?_
  obtain ⟨a, b, ⟨⟩⟩ := xs
  change List Rg at a b
  obtain ⟨hp, hp2⟩ := hp
  change a.length ≤ 10000 at hp
  change b.length ≤ 10000 at hp2
  clear hg
  have hbm := both_made2 a b
  have hl1 := madeR_len a [] 0
  have hl2 := madeR_len b [] 0
  rw [List.length_nil] at hl1 hl2
  show vfun tab _ k18 Try.f18 [.sl RgT a, .sl RgT b] [] _
  refine Ev.out ?_
  repeat' (first | ((with_reducible refine Ev.mk ?_); conv => whnf) | (with_reducible refine And.intro ?_ ?_) | (intro h))
  all_goals (try simp only [decide_eq_true_eq, decide_eq_false_iff_not, beq_iff_eq, bne_iff_ne, beq_eq_false_iff_ne, bne_eq_false_iff_eq, Int.toNat_natCast, ge_iff_le, gt_iff_lt, Bool.not_eq_true', Bool.not_eq_false', Int.not_lt, Int.not_le, ne_eq] at *)
  all_goals (try dsimp only [Ty.den, Ty.dflt, RgT, sPlainA, sEmpty, sEndless] at *)
  all_goals (try simp only [eq4, ne4, eq3, ne3, eq2, ne2, Prod.eta, List.length_cons, List.length_nil, List.length_append, Nat.zero_add] at *)
  all_goals (try simp (disch := omega) only [wrap64] at *)
  all_goals try first | exact leafDraw (by kernel_rfl) | exact Leaf.mk trivial | (refine Leaf.mk ?_; omega) | (refine Leaf.mk ?_; unfold maxLen; omega)
  all_goals try exact Leaf.mk (show List.length _ ≤ 100000 by omega)
  generalize madeR a [] 0 = pa at *
  generalize madeR b [] 0 = pb at *
  refine LoopVC.weak [(.slot 0, .frz), (.slot 1, .frz), (.slot 5, .nil 29 RgT)] (fun q : List Rg × List Rg × List Rg => [(0, .sl RgT q.1), (1, .sl RgT q.2.1)]) (fun q => [(0, .arr 29 RgT q.2.2)]) (fun q => q.1.length ≤ pa.length ∧ q.2.1.length ≤ pb.length ∧ q.2.2.length + q.1.length + q.2.1.length ≤ pa.length + pb.length ∧ q.2.2 ++ bothF (q.1.length + q.2.1.length) q.1 q.2.1 = madeR a b 1) (fun q => q.1.length + q.2.1.length) (pa, pb, []) (Ev.mk ?_)
  (conv => whnf)
  refine ⟨Leaf.mk rfl, Leaf.mk ?_, ?_⟩
  · exact ⟨Nat.le_refl _, Nat.le_refl _, by simp, hbm⟩
  rintro ⟨x, y, o⟩ ⟨hx, hy, ho, he⟩
  dsimp only at hx hy ho he
  dsimp only
  have he1 : x.length = 0 → o = madeR a b 1 := fun h => by
    rw [← he, List.eq_nil_of_length_eq_zero h]; cases y <;> simp [bothF]
  have he2 : y.length = 0 → o = madeR a b 1 := fun h => by
    rw [← he, List.eq_nil_of_length_eq_zero h]; cases x <;> simp [bothF]
  have hxc : 0 < x.length → ∃ u x', x = u :: x' := fun h => by
    cases x with
    | nil => simp at h
    | cons u x => exact ⟨u, x, rfl⟩
  have hyc : 0 < y.length → ∃ u x', y = u :: x' := fun h => by
    cases y with
    | nil => simp at h
    | cons u x => exact ⟨u, x, rfl⟩
  repeat' (first | ((with_reducible refine Ev.mk ?_); conv => whnf) | (with_reducible refine And.intro ?_ ?_) | (intro h))
  all_goals (try simp only [decide_eq_true_eq, decide_eq_false_iff_not, beq_iff_eq, bne_iff_ne, beq_eq_false_iff_ne, bne_eq_false_iff_eq, Int.toNat_natCast, ge_iff_le, gt_iff_lt, Bool.not_eq_true', Bool.not_eq_false', Int.not_lt, Int.not_le, ne_eq] at *)
  all_goals (try dsimp only [Ty.den, Ty.dflt, RgT, sPlainA, sEmpty, sEndless] at *)
  all_goals (try simp only [eq4, ne4, eq3, ne3, eq2, ne2, Prod.eta, List.length_cons, List.length_nil, List.length_append, Nat.zero_add] at *)
  all_goals (try simp (disch := omega) only [wrap64] at *)
  all_goals try first | exact leafDraw (by kernel_rfl) | exact Leaf.mk trivial | (refine Leaf.mk ?_; omega) | (refine Leaf.mk ?_; unfold maxLen; omega)
  all_goals try first
    | exact Leaf.mk (ret1 (show o = madeR a b 1 from he1 (by omega)))
    | exact Leaf.mk (ret1 (show o = madeR a b 1 from he2 (by omega)))
    | (refine Leaf.mk ?_; rw [List.length_singleton]; omega)
    | (refine Leaf.mk ?_; rw [List.length_singleton]; unfold maxLen; omega)
  all_goals
    clear he1 he2
    obtain ⟨u, x', rfl⟩ := hxc (by omega)
    obtain ⟨v, y', rfl⟩ := hyc (by omega)
    clear hxc hyc
    rw [both_cons] at he
    simp only [Int.toNat_zero, List.getD_cons_zero] at *
  all_goals try (exfalso; simp_all; done)
  all_goals
    have hq : ∀ q : Rg, q = meetR u v → ∀ z, o ++ ([meetR u v] ++ z) = madeR a b 1 → (o ++ [q]) ++ z = madeR a b 1 := fun q h z hz => by rw [h, List.append_assoc]; exact hz
    have hcut : ∀ (w : Rg) (t : List Rg), List.drop (Int.toNat 1) (List.take (w :: t).length (w :: t)) = t := fun w t => by rw [List.take_length]; rfl
    rw [hcut]
    first
    | rw [if_neg (Bool.eq_false_iff.1 (meet_is (u := u) (v := v) ‹emptyR _ = false› (by first | exact meet_max (.inl ‹endR u = true›) | exact meet_max (.inr ‹endR v = true›) | exact meet_min ‹endR u = false› ‹endR v = false›)))] at he
    | rw [if_pos (meet_is (u := u) (v := v) ‹emptyR _ = true› (by first | exact meet_max (.inl ‹endR u = true›) | exact meet_max (.inr ‹endR v = true›) | exact meet_min ‹endR u = false› ‹endR v = false›)), List.nil_append] at he
    first
    | rw [if_pos (adv1 ‹endR u = false› ‹endR v = true›)] at he
    | rw [if_pos (adv2 ‹endR u = false› ‹(sless u.2 v.2 || u.2 == v.2) = true›)] at he
    | rw [if_neg (adv3 ‹endR u = true›)] at he
    | rw [if_neg (adv4 ‹endR v = false› ‹(sless u.2 v.2 || u.2 == v.2) = false›)] at he
    simp only [List.length_cons] at hx hy ho
    first
    | exact Leaf.mk ⟨(u :: x', y', o), rfl, ⟨by show (u :: x').length ≤ _; simp only [List.length_cons]; omega, by show y'.length ≤ _; omega, by show o.length + (u :: x').length + y'.length ≤ _; simp only [List.length_cons]; omega, he⟩, by show (u :: x').length + y'.length < _; simp only [List.length_cons]; omega⟩
    | exact Leaf.mk ⟨(x', v :: y', o), rfl, ⟨by show x'.length ≤ _; omega, by show (v :: y').length ≤ _; simp only [List.length_cons]; omega, by show o.length + x'.length + (v :: y').length ≤ _; simp only [List.length_cons]; omega, he⟩, by show x'.length + (v :: y').length < _; simp only [List.length_cons]; omega⟩
    | exact Leaf.mk ⟨(u :: x', y', o ++ [_]), rfl, ⟨by show (u :: x').length ≤ _; simp only [List.length_cons]; omega, by show y'.length ≤ _; omega, by show (o ++ [_]).length + (u :: x').length + y'.length ≤ _; simp only [List.length_cons, List.length_append, List.length_nil]; omega, hq _ (by first | exact meet_max (.inl ‹endR u = true›) | exact meet_max (.inr ‹endR v = true›) | exact meet_min ‹endR u = false› ‹endR v = false›) _ he⟩, by show (u :: x').length + y'.length < _; simp only [List.length_cons]; omega⟩
    | exact Leaf.mk ⟨(x', v :: y', o ++ [_]), rfl, ⟨by show x'.length ≤ _; omega, by show (v :: y').length ≤ _; simp only [List.length_cons]; omega, by show (o ++ [_]).length + x'.length + (v :: y').length ≤ _; simp only [List.length_cons, List.length_append, List.length_nil]; omega, hq _ (by first | exact meet_max (.inl ‹endR u = true›) | exact meet_max (.inr ‹endR v = true›) | exact meet_min ‹endR u = false› ‹endR v = false›) _ he⟩, by show x'.length + (v :: y').length < _; simp only [List.length_cons]; omega⟩
theorem without_made2 (a b : List Rg) : madeR a (turnF [] (madeR b [] 0)) 1 = madeR a b 2 := by
  have h : ∀ l k, hasRg (madeR l [] 0) k = hasRg l k := fun l k => by rw [(madeR_ok l [] 0).2, pK, if_neg (by decide), if_neg (by decide), has_nil, Bool.or_false]
  obtain ⟨h1, -, h2⟩ := turnF_ok (madeR_ok b [] 0).1 (f := []) fun q _ => .inl rfl
  refine made_uniq (madeR_ok _ _ _).1 fun k => ?_
  rw [(madeR_ok _ _ _).2, pK, if_pos rfl, pK, if_neg (by decide), if_pos rfl, h2, h, show sless k [] = false from Bool.eq_false_iff.2 fun hc => slt_nil _ (sless_iff.1 hc)]
  rfl
def sWithoutA : PSpec := ⟨[.d RgsT, .d RgsT], [⟨false, [.o 29 RgT]⟩], fun x => List.length x.1 ≤ 1000 ∧ List.length x.2.1 ≤ 1000, fun x => ((madeR x.1 x.2.1 2, ()), ())⟩
theorem fWithoutA : FnOk Try.prog 44 := ⟨_, Try.func44, by decide, rfl⟩
theorem pWithoutA : PSound Try.prog 44 sWithoutA := by
  refine psound (T := tab) (S := (spOf [(12, sPlainA.spec (lsOf [])), (68, sTurnA.spec (lsOf [])), (18, sBothA.spec (lsOf []))])) (keep := k44) (by kernel_rfl) tabOk (spCons (pOk pPlainA fPlainA (by decide) lsNil) (spCons (pOk pTurnA fTurnA (by decide) lsNil) (spCons (pOk pBothA fBothA (by decide) lsNil) spNil))) (by kernel_rfl) Try.func44 (by kernel_rfl) (by decide) fun xs hg hp => ?_
  obtain ⟨a, b, ⟨⟩⟩ := xs
  change List Rg at a b
  obtain ⟨hp, hp2⟩ := hp
  change a.length ≤ 1000 at hp
  change b.length ≤ 1000 at hp2
  clear hg
  have hl2 := madeR_len b [] 0
  rw [List.length_nil] at hl2
  have hl3 := turnF_len (madeR b [] 0) []
  show vfun tab _ k44 Try.f44 [.sl RgT a, .sl RgT b] [] _
  refine Ev.out ?_
  repeat' (first | ((with_reducible refine Ev.mk ?_); conv => whnf) | (with_reducible refine And.intro ?_ ?_) | (intro h))
  all_goals (try simp only [decide_eq_true_eq, decide_eq_false_iff_not, beq_iff_eq, bne_iff_ne, beq_eq_false_iff_ne, bne_eq_false_iff_eq, Int.toNat_natCast, ge_iff_le, gt_iff_lt, Bool.not_eq_true', Bool.not_eq_false', Int.not_lt, Int.not_le, ne_eq] at *)
  all_goals (try dsimp only [Ty.den, Ty.dflt, RgT, sPlainA, sTurnA, sBothA] at *)
  all_goals (try simp only [eq4, ne4, eq3, ne3, eq2, ne2, Prod.eta, List.length_cons, List.length_nil, List.length_append, Nat.zero_add] at *)
  all_goals (try simp (disch := omega) only [wrap64] at *)
  all_goals try first | exact leafDraw (by kernel_rfl) | exact Leaf.mk trivial | (refine Leaf.mk ?_; omega) | (refine Leaf.mk ?_; unfold maxLen; omega)
  all_goals first
    | exact Leaf.mk (show List.length _ ≤ 100000 by omega)
    | exact Leaf.mk (show List.length _ ≤ 10000 ∧ List.length _ ≤ 10000 by constructor <;> omega)
    | exact Leaf.mk (ret1 (without_made2 a b))
def sRemoveA : PSpec := ⟨[.d RgsT, .d RgT], [⟨false, [.o 29 RgT]⟩], fun x => List.length x.1 ≤ 1000, fun x => ((madeR x.1 [x.2.1] 2, ()), ())⟩
theorem fRemoveA : FnOk Try.prog 16 := ⟨_, Try.func16, by decide, rfl⟩
theorem pRemoveA : PSound Try.prog 16 sRemoveA := by
  refine psound (T := tab) (S := (spOf [(44, sWithoutA.spec (lsOf []))])) (keep := k16) (by kernel_rfl) tabOk (spCons (pOk pWithoutA fWithoutA (by decide) lsNil) spNil) (by kernel_rfl) Try.func16 (by kernel_rfl) (by decide) fun xs hg hp => ?_
  obtain ⟨l, ⟨lo, hi⟩, ⟨⟩⟩ := xs
  change List Rg at l
  change List UInt8 at lo hi
  change l.length ≤ 1000 at hp
  clear hg
  show vfun tab _ k16 Try.f16 [.sl RgT l, .agg [.s lo, .s hi]] [] _
  refine Ev.out ?_
  repeat' (first | ((with_reducible refine Ev.mk ?_); conv => whnf) | (with_reducible refine And.intro ?_ ?_) | (intro h))
  all_goals (try simp only [decide_eq_true_eq, decide_eq_false_iff_not, beq_iff_eq, bne_iff_ne, beq_eq_false_iff_ne, bne_eq_false_iff_eq, Int.toNat_natCast, ge_iff_le, gt_iff_lt, Bool.not_eq_true', Bool.not_eq_false', Int.not_lt, Int.not_le, ne_eq] at *)
  all_goals (try dsimp only [Ty.den, Ty.dflt, RgT, sWithoutA] at *)
  all_goals (try simp only [eq4, ne4, eq3, ne3, eq2, ne2, Prod.eta, List.length_cons, List.length_nil, List.length_append, Nat.zero_add] at *)
  all_goals (try simp (disch := omega) only [wrap64] at *)
  all_goals try first | exact leafDraw (by kernel_rfl) | exact Leaf.mk trivial | (refine Leaf.mk ?_; omega) | (refine Leaf.mk ?_; unfold maxLen; omega)
  all_goals first
    | exact Leaf.mk (show List.length _ ≤ 1000 ∧ List.length _ ≤ 1000 from ⟨hp, by show 1 ≤ 1000; omega⟩)
    | exact Leaf.mk (ret1 rfl)
def sGapsA : PSpec := ⟨[.d RgsT, .d RgT], [⟨false, [.o 29 RgT]⟩], fun x => List.length x.1 ≤ 1000, fun x => ((madeR [x.2.1] x.1 2, ()), ())⟩
theorem fGapsA : FnOk Try.prog 20 := ⟨_, Try.func20, by decide, rfl⟩
theorem pGapsA : PSound Try.prog 20 sGapsA := by
  refine psound (T := tab) (S := (spOf [(44, sWithoutA.spec (lsOf []))])) (keep := k20) (by kernel_rfl) tabOk (spCons (pOk pWithoutA fWithoutA (by decide) lsNil) spNil) (by kernel_rfl) Try.func20 (by kernel_rfl) (by decide) fun xs hg hp => ?_
  obtain ⟨l, ⟨lo, hi⟩, ⟨⟩⟩ := xs
  change List Rg at l
  change List UInt8 at lo hi
  change l.length ≤ 1000 at hp
  clear hg
  show vfun tab _ k20 Try.f20 [.sl RgT l, .agg [.s lo, .s hi]] [] _
  refine Ev.out ?_
  repeat' (first | ((with_reducible refine Ev.mk ?_); conv => whnf) | (with_reducible refine And.intro ?_ ?_) | (intro h))
  all_goals (try simp only [decide_eq_true_eq, decide_eq_false_iff_not, beq_iff_eq, bne_iff_ne, beq_eq_false_iff_ne, bne_eq_false_iff_eq, Int.toNat_natCast, ge_iff_le, gt_iff_lt, Bool.not_eq_true', Bool.not_eq_false', Int.not_lt, Int.not_le, ne_eq] at *)
  all_goals (try dsimp only [Ty.den, Ty.dflt, RgT, sWithoutA] at *)
  all_goals (try simp only [eq4, ne4, eq3, ne3, eq2, ne2, Prod.eta, List.length_cons, List.length_nil, List.length_append, Nat.zero_add] at *)
  all_goals (try simp (disch := omega) only [wrap64] at *)
  all_goals try first | exact leafDraw (by kernel_rfl) | exact Leaf.mk trivial | (refine Leaf.mk ?_; omega) | (refine Leaf.mk ?_; unfold maxLen; omega)
  all_goals first
    | exact Leaf.mk (show List.length _ ≤ 1000 ∧ List.length _ ≤ 1000 from ⟨by show 1 ≤ 1000; omega, hp⟩)
    | exact Leaf.mk (ret1 rfl)
def covR (a b : List Rg) : Bool := decide ((madeR b a 2).length = 0)
def sCoversA : PSpec := ⟨[.d RgsT, .d RgsT], [⟨false, [.d .bool]⟩], fun x => List.length x.1 ≤ 1000 ∧ List.length x.2.1 ≤ 1000, fun x => ((covR x.1 x.2.1, ()), ())⟩
theorem fCoversA : FnOk Try.prog 22 := ⟨_, Try.func22, by decide, rfl⟩
theorem pCoversA : PSound Try.prog 22 sCoversA := by
  refine psound (T := tab) (S := (spOf [(44, sWithoutA.spec (lsOf []))])) (keep := k22) (by kernel_rfl) tabOk (spCons (pOk pWithoutA fWithoutA (by decide) lsNil) spNil) (by kernel_rfl) Try.func22 (by kernel_rfl) (by decide) fun xs hg hp => ?_
  obtain ⟨a, b, ⟨⟩⟩ := xs
  change List Rg at a b
  obtain ⟨hp, hp2⟩ := hp
  change a.length ≤ 1000 at hp
  change b.length ≤ 1000 at hp2
  clear hg
  show vfun tab _ k22 Try.f22 [.sl RgT a, .sl RgT b] [] _
  refine Ev.out ?_
  repeat' (first | ((with_reducible refine Ev.mk ?_); conv => whnf) | (with_reducible refine And.intro ?_ ?_) | (intro h))
  all_goals (try simp only [decide_eq_true_eq, decide_eq_false_iff_not, beq_iff_eq, bne_iff_ne, beq_eq_false_iff_ne, bne_eq_false_iff_eq, Int.toNat_natCast, ge_iff_le, gt_iff_lt, Bool.not_eq_true', Bool.not_eq_false', Int.not_lt, Int.not_le, ne_eq] at *)
  all_goals (try dsimp only [Ty.den, Ty.dflt, RgT, sWithoutA] at *)
  all_goals (try simp only [eq4, ne4, eq3, ne3, eq2, ne2, Prod.eta, List.length_cons, List.length_nil, List.length_append, Nat.zero_add] at *)
  all_goals (try simp (disch := omega) only [wrap64] at *)
  all_goals try first | exact leafDraw (by kernel_rfl) | exact Leaf.mk trivial | (refine Leaf.mk ?_; omega) | (refine Leaf.mk ?_; unfold maxLen; omega)
  all_goals first
    | exact Leaf.mk (show List.length _ ≤ 1000 ∧ List.length _ ≤ 1000 from ⟨hp2, hp⟩)
    | (refine Leaf.mk (ret1 (show _ = covR a b from ?_))
       unfold covR
       rw [Bool.eq_iff_iff, beq_iff_eq, decide_eq_true_iff]
       omega)
end Go.Proofs.Ytbobjiaggngbmaa

set_option linter.unusedVariables false
set_option linter.unusedSimpArgs false
set_option maxRecDepth 8000
set_option maxHeartbeats 4000000
namespace Go.Proofs.Ytbobjiaggngbmaa
open Go.Eng
def MadeI (p : Str → Bool) (es : List Str) (M : List Rg) (q : Nat × Bool × List Rg) : Prop :=
  q.1 ≤ es.length ∧ q.2.2.length ≤ q.1 ∧ (q.2.1 = false → q.2.2 ++ madeF p none (es.drop q.1) = M) ∧ (q.2.1 = true → 0 < q.2.2.length ∧ (q.2.2.getD (q.2.2.length - 1) rg0).2 = [] ∧ q.2.2.dropLast ++ madeF p (some (q.2.2.getD (q.2.2.length - 1) rg0).1) (es.drop q.1) = M)
theorem MadeI.s1 {p : Str → Bool} {es : List Str} {M o : List Rg} {i : Nat} {op z : Bool} (h : MadeI p es M (i, op, o)) (hi : i < es.length) (hp : p (es.getD i []) = true) (ho : op = false) (hz : z = true) : MadeI p es M (i + 1, z, o ++ [(es.getD i [], [])]) := by
  subst ho; subst hz
  obtain ⟨-, h2, h3, -⟩ := h
  have h3 := h3 rfl
  dsimp only at h2 h3
  rw [drop_at [] hi, madeF, if_pos hp] at h3
  have e1 : (o ++ [(es.getD i [], [])]).length - 1 = o.length := by simp
  have e2 : ∀ q : Rg, (o ++ [q]).getD o.length rg0 = q := fun q => by
    rw [List.getD_eq_getElem?_getD, List.getElem?_append_right (Nat.le_refl _), Nat.sub_self]; rfl
  refine ⟨hi, by simp; omega, fun h => (by cases h), fun _ => ⟨by simp, ?_, ?_⟩⟩
  · dsimp only
    rw [e1, e2]
  · dsimp only
    rw [e1, e2, List.dropLast_concat]; exact h3
theorem MadeI.s2 {p : Str → Bool} {es : List Str} {M o : List Rg} {i : Nat} {op z : Bool} (h : MadeI p es M (i, op, o)) (hi : i < es.length) (hp : p (es.getD i []) = false) (ho : op = true) (hz : z = false) : MadeI p es M (i + 1, z, o.set (o.length - 1) ((o.getD (o.length - 1) rg0).1, es.getD i [])) := by
  subst ho; subst hz
  obtain ⟨-, h2, -, h3⟩ := h
  obtain ⟨h4, h5, h6⟩ := h3 rfl
  dsimp only at h2 h4 h5 h6
  rw [drop_at [] hi, madeF, if_neg (by rw [hp]; simp)] at h6
  refine ⟨hi, by simp; omega, fun _ => ?_, fun h => by cases h⟩
  dsimp only
  rw [set_last h4, List.append_assoc]; exact h6
theorem MadeI.s3 {p : Str → Bool} {es : List Str} {M o : List Rg} {i : Nat} {op z : Bool} (h : MadeI p es M (i, op, o)) (hi : i < es.length) (hp : p (es.getD i []) = z) (ho : op = z) : MadeI p es M (i + 1, z, o) := by
  subst ho
  obtain ⟨-, h2, h3, h4⟩ := h
  dsimp only at h2 h3 h4
  refine ⟨hi, Nat.le_succ_of_le h2, fun h => ?_, fun h => ?_⟩
  · have h3 := h3 h
    dsimp only at h ⊢
    rw [h] at hp
    rw [drop_at [] hi, madeF, if_neg (by rw [hp]; simp)] at h3
    exact h3
  · obtain ⟨h5, h6, h7⟩ := h4 h
    dsimp only at h ⊢
    rw [h] at hp
    rw [drop_at [] hi, madeF, if_pos hp] at h7
    exact ⟨h5, h6, h7⟩
theorem MadeI.fin {p : Str → Bool} {es : List Str} {M o : List Rg} {i : Nat} {op : Bool} (h : MadeI p es M (i, op, o)) (hi : es.length ≤ i) : o = M := by
  obtain ⟨-, -, h3, h4⟩ := h
  dsimp only at h3 h4
  rw [drop_end hi] at h3 h4
  cases op
  · have := h3 rfl
    rw [madeF, List.append_nil] at this
    exact this
  · obtain ⟨h5, h6, h7⟩ := h4 rfl
    rw [madeF] at h7
    rw [← h7]
    conv => lhs; rw [← set_self h5]
    congr 2
    exact Prod.ext rfl h6
end Go.Proofs.Ytbobjiaggngbmaa

set_option linter.unusedVariables false
set_option linter.unusedSimpArgs false
set_option maxRecDepth 8000
namespace Go.Proofs.Ytbobjiaggngbmaa
open Go.Eng
theorem rdSmall_put {n : Int} (h0 : 0 ≤ n) (h1 : n ≤ 1099511627776) (r : List Int) : rdSmall (putSmall n ++ r) 0 = (n, r, 0) := by
  have hg := getSmall_put (n := n) (by omega) r
  rw [rdSmall, if_neg (by simp), hg]
  dsimp only
  rw [if_neg (by simp), if_neg (by omega), Int.toNat_natCast, List.drop_left']
  rfl
theorem rdText_put {k : List UInt8} {m : Int} (h0 : (k.length : Int) ≤ m) (r : List Int) : rdText (putText k ++ r) 0 m = (k, r, 0) := by
  have hg := getText_put k r
  rw [rdText, if_neg (by simp), hg]
  dsimp only
  rw [if_neg (by simp), if_neg (by split <;> omega), Int.toNat_natCast, List.drop_left']
  rfl
theorem flat_len {α : Type} (f : Ver → List α) (m : Nat) : ∀ (l : List Ver), (∀ v ∈ l, (f v).length ≤ m) → (l.flatMap f).length ≤ l.length * m
  | [], _ => by simp
  | v :: r, h => by
    have h1 := h v (by simp)
    have h2 := flat_len f m r (fun x hx => h x (by simp [hx]))
    simp only [List.flatMap_cons, List.length_append, List.length_cons, Nat.add_mul, Nat.one_mul]
    omega
end Go.Proofs.Ytbobjiaggngbmaa

set_option linter.unusedVariables false
set_option linter.unusedSimpArgs false
set_option maxRecDepth 8000
set_option maxHeartbeats 4000000
namespace Go.Proofs.Ytbobjiaggngbmaa
open Go.Eng
theorem wrapu {n : Int} (h : 0 ≤ n ∧ n ≤ 1099511627776) : IntKind.u64.wrap n = n := by rw [wrapU64]; omega
end Go.Proofs.Ytbobjiaggngbmaa

set_option linter.unusedVariables false
set_option linter.unusedSimpArgs false
namespace Go.Proofs.Ytbobjiaggngbmaa
open Go.Eng
def rel (me at' : Int) (v : Ver) : Bool := pend me v || okTs at' v
end Go.Proofs.Ytbobjiaggngbmaa

set_option linter.unusedVariables false
set_option linter.unusedSimpArgs false
set_option maxRecDepth 8000
set_option maxHeartbeats 4000000
namespace Go.Proofs.Ytbobjiaggngbmaa
open Go.Eng
theorem rdSmall_suf (b : List Int) (e : Int) : (rdSmall b e).2.1 <:+ b := by
  unfold rdSmall
  repeat' split
  all_goals first | exact List.suffix_refl _ | exact List.drop_suffix _ _
theorem rdText_suf (b : List Int) (e m : Int) : (rdText b e m).2.1 <:+ b := by
  unfold rdText
  generalize (if 0 < m then m else 0) = mm
  repeat' split
  all_goals first | exact List.suffix_refl _ | exact List.drop_suffix _ _
theorem suf_len {a b : List Int} (h : a <:+ b) : a.length ≤ b.length := h.length_le
end Go.Proofs.Ytbobjiaggngbmaa

set_option linter.unusedVariables false
set_option linter.unusedSimpArgs false
set_option maxRecDepth 8000
set_option maxHeartbeats 4000000
namespace Go.Proofs.Ytbobjiaggngbmaa
open Go.Eng
def sumT : List Rg → Nat
  | [] => 0
  | r :: t => r.1.length + r.2.length + sumT t
theorem sumT_app : ∀ (a b : List Rg), sumT (a ++ b) = sumT a + sumT b
  | [], b => by simp [sumT]
  | r :: t, b => by rw [List.cons_append, sumT, sumT, sumT_app t b]; omega
theorem sumT_take (l : List Rg) (i : Nat) : sumT (l.take i) ≤ sumT l := by
  conv => rhs; rw [← List.take_append_drop i l]
  rw [sumT_app]; omega
theorem sumT_mem : ∀ {l : List Rg} {r : Rg}, r ∈ l → r.1.length + r.2.length ≤ sumT l
  | [], r, h => by cases h
  | x :: t, r, h => by
    rw [sumT]
    rcases List.mem_cons.1 h with rfl | h
    · omega
    · have := sumT_mem h; omega
def okG (l : List Rg) : Prop := l.length ≤ 60000 ∧ sumT l ≤ 60000
def putR1 (r : Rg) : List Int := putText r.1 ++ putText r.2
def putG (l : List Rg) : List Int := putSmall (l.length : Nat) ++ l.flatMap putR1
def putGF (l : List Rg) : List Int × Int := if chkR l = 0 then (putG l, 0) else ([], chkR l)
theorem putR1s_len : ∀ l : List Rg, (l.flatMap putR1).length ≤ 2 * sumT l + 4 * l.length
  | [] => by simp
  | r :: t => by
    have h1 := putR1s_len t
    have h2 := putText_len r.1
    have h3 := putText_len r.2
    rw [List.flatMap_cons, List.length_append, putR1, List.length_append, sumT, List.length_cons]; omega
theorem retBG {u v : List Int × Int} (h : u = v) : (some ((u.1, ()), (u.2, ()), ()) : Option ((List Int × Unit) × (Int × Unit) × Unit)) = some ((v.1, ()), (v.2, ()), ()) := by rw [h]
def sPutG : PSpec := ⟨[.d RgsT], [⟨false, [.d BT]⟩, ⟨false, [.d (.int .i64)]⟩], fun x => okG x.1, fun x => (((putGF x.1).1, ()), ((putGF x.1).2, ()), ())⟩
theorem fPutG : FnOk Try.prog 24 := ⟨_, Try.func24, by decide, rfl⟩
theorem pPutG : PSound Try.prog 24 sPutG := by
  refine psound (T := tab) (S := (spOf [(30, sCheckA.spec (lsOf [])), (45, sPutSmall.spec (lsOf [])), (47, sPutText.spec (lsOf [])), (46, sConcatB.spec (lsOf []))])) (keep := k24) (by kernel_rfl) tabOk (spCons (pOk pCheckA fCheckA (by decide) lsNil) (spCons (pOk pPutSmall fPutSmall (by decide) lsNil) (spCons (pOk pPutText fPutText (by decide) lsNil) (spCons (pOk pConcatB fConcatB (by decide) lsNil) spNil)))) (by kernel_rfl) Try.func24 (by kernel_rfl) (by decide) fun xs hg hp => ?_
  obtain ⟨l, ⟨⟩⟩ := xs
  change List Rg at l
  change l.length ≤ 60000 ∧ sumT l ≤ 60000 at hp
  obtain ⟨hl, hs⟩ := hp
  clear hg
  have hw : IntKind.u64.wrap (l.length : Int) = (l.length : Int) := wrapu (by omega)
  have h9 := putSmall_len (l.length : Int)
  show vfun tab _ k24 Try.f24 [.sl RgT l] [] _
  refine Ev.out ?_
  repeat' (first | ((with_reducible refine Ev.mk ?_); conv => whnf) | (with_reducible refine And.intro ?_ ?_) | (intro h))
  all_goals (try simp only [decide_eq_true_eq, decide_eq_false_iff_not, beq_iff_eq, bne_iff_ne, beq_eq_false_iff_ne, bne_eq_false_iff_eq, Int.toNat_natCast, ge_iff_le, gt_iff_lt, Bool.not_eq_true', Bool.not_eq_false', Int.not_lt, Int.not_le, ne_eq] at *)
  all_goals (try dsimp only [Ty.den, Ty.dflt, RgT, sCheckA, sPutSmall, sPutText, sConcatB] at *)
  all_goals (try simp only [eq4, ne4, eq3, ne3, eq2, ne2, Prod.eta, List.length_cons, List.length_nil, List.length_append, Nat.zero_add] at *)
  all_goals (try simp (disch := omega) only [wrap64] at *)
  all_goals try first | exact leafDraw (by kernel_rfl) | exact Leaf.mk trivial | (refine Leaf.mk ?_; omega) | (refine Leaf.mk ?_; unfold maxLen; omega)
  · exact Leaf.mk (retBG (u := ([], chkR l)) (v := putGF l) (if_neg h).symm)
  have h' := h
  rw [hw]
  refine LoopVC.weak2 [(.slot 5, .frz)] (fun i : Nat => [(5, .sl (.int .u8) (putSmall (l.length : Int) ++ (l.take i).flatMap putR1)), (19, .i .i64 i)]) (fun _ => []) (fun i => i ≤ l.length) (fun i => l.length - i) 0 (Ev.mk ?_)
  (conv => whnf)
  refine ⟨Leaf.mk ?_, Leaf.mk ?_, ?_⟩
  · rw [List.take_zero, List.flatMap_nil, List.append_nil]; rfl
  · omega
  intro i hi
  have hbl : i < l.length → (l.getD i ([], [])).1.length + (l.getD i ([], [])).2.length ≤ sumT l := fun h => sumT_mem (getD_mem (xs := l) rg0 h)
  have hat : ∀ h : i < l.length, putSmall (l.length : Int) ++ (l.take (i + 1)).flatMap putR1 = putSmall (l.length : Int) ++ (l.take i).flatMap putR1 ++ putText (l.getD i ([], [])).1 ++ putText (l.getD i ([], [])).2 := fun h => by
    rw [take_at rg0 h, List.flatMap_append]
    simp only [List.flatMap_cons, List.flatMap_nil, List.append_nil, List.append_assoc]; rfl
  have hal : (putSmall (l.length : Int) ++ (l.take i).flatMap putR1).length ≤ 370000 := by
    have h1 := putR1s_len (l.take i)
    have h2 := sumT_take l i
    have h3 : (l.take i).length ≤ l.length := by rw [List.length_take]; omega
    rw [List.length_append]; omega
  have ht1 := putText_len (l.getD i ([], [])).1
  have ht2 := putText_len (l.getD i ([], [])).2
  have hfin : l.length ≤ i → chkR l = 0 → (putSmall (l.length : Int) ++ (l.take i).flatMap putR1, (0 : Int)) = putGF l := fun h hc => by
    rw [putGF, if_pos hc, List.take_of_length_le h]; rfl
  generalize hA : putSmall (l.length : Int) ++ (l.take i).flatMap putR1 = A at *
  repeat' (first | ((with_reducible refine Ev.mk ?_); conv => whnf) | (with_reducible refine And.intro ?_ ?_) | (intro h))
  all_goals (try simp only [decide_eq_true_eq, decide_eq_false_iff_not, beq_iff_eq, bne_iff_ne, beq_eq_false_iff_ne, bne_eq_false_iff_eq, Int.toNat_natCast, ge_iff_le, gt_iff_lt, Bool.not_eq_true', Bool.not_eq_false', Int.not_lt, Int.not_le, ne_eq] at *)
  all_goals (try dsimp only [Ty.den, Ty.dflt, RgT, sCheckA, sPutSmall, sPutText, sConcatB] at *)
  all_goals (try simp only [eq4, ne4, eq3, ne3, eq2, ne2, Prod.eta, List.length_cons, List.length_nil, List.length_append, Nat.zero_add] at *)
  all_goals (try simp (disch := omega) only [wrap64] at *)
  all_goals try first | exact leafDraw (by kernel_rfl) | exact Leaf.mk trivial | (refine Leaf.mk ?_; omega) | (refine Leaf.mk ?_; unfold maxLen; omega)
  · refine Leaf.mk (show _ ∧ _ from ⟨(show 3 ≤ 1000 by decide), ?_⟩)
    simp only [List.flatten_cons, List.flatten_nil, List.length_append, List.length_nil]
    omega
  · have e : [A, putText (l.getD i ([], [])).1, putText (l.getD i ([], [])).2].flatten = A ++ putText (l.getD i ([], [])).1 ++ putText (l.getD i ([], [])).2 := by simp
    exact Leaf.mk ⟨i + 1, .inl (by rw [hat (by omega), e]; rfl), by omega, by omega⟩
  · exact Leaf.mk (retBG (u := (A, 0)) (v := putGF l) (hfin (by omega) h'))
end Go.Proofs.Ytbobjiaggngbmaa

set_option linter.unusedVariables false
set_option linter.unusedSimpArgs false
set_option maxRecDepth 8000
set_option maxHeartbeats 8000000
namespace Go.Proofs.Ytbobjiaggngbmaa
open Go.Eng
theorem txt_sum : ∀ (n : Nat) (xs acc : List Int) (p : Nat), xs.length ≤ n → (txt xs acc p).2.2 = 0 → ((txt xs acc p).1.length : Int) + p + 2 ≤ acc.length + (txt xs acc p).2.1
  | _, [], acc, p, _, h => by simp [txt] at h
  | 0, _ :: _, _, _, h, _ => by simp at h
  | n + 1, c :: r, acc, p, h, h0 => by
    simp only [List.length_cons] at h
    by_cases hc : c = 0
    · cases r with
      | nil => rw [txt_end hc] at h0; simp at h0
      | cons d t =>
        simp only [List.length_cons] at h
        rw [txt_esc hc] at h0 ⊢
        split
        · dsimp only; omega
        · rename_i h1
          rw [if_neg h1] at h0
          split
          · rename_i h2
            rw [if_pos h2] at h0
            have := txt_sum n t (acc ++ [0]) (p + 2) (by omega) h0
            rw [List.length_append, List.length_singleton] at this
            omega
          · rename_i h2
            rw [if_neg h2] at h0; simp at h0
    · rw [txt_ne hc] at h0 ⊢
      have := txt_sum n r (acc ++ [c]) (p + 1) (by omega) h0
      rw [List.length_append, List.length_singleton] at this
      omega
theorem rdText_sum (b : List Int) (e m : Int) : (rdText b e m).1.length + (rdText b e m).2.1.length ≤ b.length := by
  unfold rdText
  by_cases he : e = 0
  · rw [if_neg (by simp [he])]
    by_cases h1 : (getText b).2.2 = 0
    · rw [if_neg (by rw [h1]; simp)]
      have hb := getText_bd b
      have hg := txt_sum b.length b [] 0 (Nat.le_refl _) h1
      have hg : ((txt b [] 0).1.length : Int) + (0 : Nat) + 2 ≤ (([] : List Int).length : Int) + (getText b).2.1 := hg
      have hl : (getText b).1.length = (txt b [] 0).1.length := by simp [getText, strOfBytes]
      rw [List.length_nil] at hg
      generalize (if 0 < m then m else 0) = mm at *
      split
      · dsimp only; simp
      · dsimp only
        rw [List.length_drop, hl]; omega
    · rw [if_pos h1]; simp
  · rw [if_pos he]; simp
def decR (m : Int) : Nat → List Int → Int → List Rg × List Int × Int
  | 0, b, e => ([], b, e)
  | n + 1, b, e =>
    let x := rdText b e m
    let y := rdText x.2.1 x.2.2 m
    let z := decR m n y.2.1 y.2.2
    ((x.1, y.1) :: z.1, z.2)
def decG (b : List Int) : List Rg := (decR b.length (rdSmall b 0).1.toNat (rdSmall b 0).2.1 (rdSmall b 0).2.2).1
def getG (b : List Int) : List Rg × Int := if chkR (decG b) = 0 ∧ putG (decG b) = b then (decG b, 0) else ([], 4)
theorem decR_put {m : Int} (r : List Int) : ∀ (l : List Rg), (∀ x ∈ l, (x.1.length : Int) ≤ m ∧ (x.2.length : Int) ≤ m) → decR m l.length (l.flatMap putR1 ++ r) 0 = (l, r, 0)
  | [], _ => rfl
  | x :: l, h => by
    obtain ⟨h1, h2⟩ := h x List.mem_cons_self
    have e1 : rdText ((x :: l).flatMap putR1 ++ r) 0 m = (x.1, putText x.2 ++ (l.flatMap putR1 ++ r), 0) := by
      rw [List.flatMap_cons, putR1, List.append_assoc, List.append_assoc]; exact rdText_put h1 _
    rw [List.length_cons, decR, e1]
    dsimp only
    rw [rdText_put h2]
    dsimp only
    rw [decR_put r l fun y hy => h y (List.mem_cons_of_mem _ hy)]
theorem escI_ge : ∀ xs : List Int, xs.length ≤ (xs.flatMap escI).length
  | [] => Nat.zero_le _
  | x :: r => by
    have := escI_ge r
    have h2 : 1 ≤ (escI x).length := by unfold escI; split <;> simp
    rw [List.flatMap_cons, List.length_append, List.length_cons]; omega
theorem putText_geR (s : List UInt8) : s.length + 2 ≤ (putText s).length := by
  have h := escI_ge (bytesOfStr s)
  have e : (bytesOfStr s).length = s.length := by simp [bytesOfStr]
  simp only [putText, putB, List.length_append, List.length_cons, List.length_nil]; omega
theorem putR1s_ge : ∀ l : List Rg, sumT l + 4 * l.length ≤ (l.flatMap putR1).length
  | [] => by simp [sumT]
  | r :: t => by
    have h1 := putR1s_ge t
    have h2 := putText_geR r.1
    have h3 := putText_geR r.2
    rw [List.flatMap_cons, List.length_append, putR1, List.length_append, sumT, List.length_cons]; omega
theorem putG_ge (l : List Rg) : sumT l + 4 * l.length ≤ (putG l).length := by
  have := putR1s_ge l
  rw [putG, List.length_append]; omega
theorem putG_small {s : List Rg} {b : List Int} (hb : putG s = b) (hl : b.length ≤ 1000000) : rdSmall b 0 = ((s.length : Int), s.flatMap putR1, 0) := by
  have := putG_ge s
  rw [← hb]; exact rdSmall_put (by omega) (by rw [hb] at this; omega) _
theorem putG_fit {s : List Rg} {b : List Int} (hb : putG s = b) {x : Rg} (hx : x ∈ s) : (x.1.length : Int) ≤ (b.length : Int) ∧ (x.2.length : Int) ≤ (b.length : Int) := by
  have h1 := putG_ge s
  have h2 := sumT_mem hx
  rw [hb] at h1
  omega
theorem decG_put {s : List Rg} {b : List Int} (hb : putG s = b) (hl : b.length ≤ 1000000) : decG b = s := by
  unfold decG
  rw [putG_small hb hl]
  dsimp only
  rw [Int.toNat_natCast]
  have := decR_put (m := (b.length : Int)) [] s fun x hx => putG_fit hb hx
  rw [List.append_nil] at this
  rw [this]
theorem getG_put {s : List Rg} {b : List Int} (h : chkR s = 0) (hb : putG s = b) (hl : b.length ≤ 1000000) : getG b = (s, 0) := by
  have := decG_put hb hl
  rw [getG, this, if_pos ⟨h, hb⟩]
theorem getG_not {b : List Int} (h : ∀ s, chkR s = 0 → putG s = b → False) : getG b = ([], 4) := if_neg fun hc => h _ hc.1 hc.2
theorem isB_G (l : List Rg) : isB (putG l) := by
  unfold putG
  refine isB_append (isB_small _) fun z hz => ?_
  obtain ⟨x, -, hz⟩ := List.mem_flatMap.1 hz
  exact isB_append (isB_put _) (isB_put _) z hz
def sGetG : PSpec := ⟨[.d BT], [⟨false, [.d RgsT]⟩, ⟨false, [.d (.int .i64)]⟩], fun x => List.length (α := Int) x.1 ≤ 50000, fun x => (((getG x.1).1, ()), ((getG x.1).2, ()), ())⟩
theorem retGG {u v : List Rg × Int} (h : u = v) : (some ((u.1, ()), (u.2, ()), ()) : Option ((List Rg × Unit) × (Int × Unit) × Unit)) = some ((v.1, ()), (v.2, ()), ()) := by rw [h]
theorem fGetG : FnOk Try.prog 26 := ⟨_, Try.func26, by decide, rfl⟩
theorem pGetG : PSound Try.prog 26 sGetG := by
  refine psound (T := tab) (S := (spOf [(50, sNew.spec (lsOf [])), (52, sText.spec), (51, sSmall.spec), (24, sPutG.spec (lsOf [])), (53, sBEqual.spec (lsOf []))])) (keep := k26) (by kernel_rfl) tabOk (spCons (.inl ⟨nOk lsNil pNew, fNew⟩) (spCons (.inl ⟨pText, fText⟩) (spCons (.inl ⟨pSmall, fSmall⟩) (spCons (pOk pPutG fPutG (by decide) lsNil) (spCons (pOk pBEqual fBEqual (by decide) lsNil) spNil))))) (by kernel_rfl) Try.func26 (by kernel_rfl) (by decide) fun xs hg hp => ?_
  obtain ⟨b, ⟨⟩⟩ := xs
  obtain ⟨⟨-, hx⟩, -⟩ := hg
  change List Int at b
  change b.length ≤ 50000 at hp
  have hB : isB b := isB_good hx
  clear hx
  have hb1 := rdSmall_suf b 0
  have hl1 := suf_len hb1
  show vfun tab _ k26 Try.f26 [.sl (.int .u8) b] [] _
  refine Ev.out ?_
  repeat' (first | ((with_reducible refine Ev.mk ?_); conv => whnf) | (with_reducible refine And.intro ?_ ?_) | (intro h))
  all_goals (try simp only [decide_eq_true_eq, decide_eq_false_iff_not, beq_iff_eq, bne_iff_ne, beq_eq_false_iff_ne, bne_eq_false_iff_eq, Int.toNat_natCast, ge_iff_le, gt_iff_lt, Bool.not_eq_true', Bool.not_eq_false', Int.not_lt, Int.not_le, ne_eq] at *)
  all_goals (try dsimp only [Ty.den, Ty.dflt, RgT, sNew, sText, sSmall] at *)
  all_goals (try simp only [eq4, ne4, eq3, ne3, eq2, ne2, Prod.eta, List.length_cons, List.length_nil, List.length_append, Nat.zero_add] at *)
  all_goals (try simp (disch := omega) only [wrap64] at *)
  all_goals try first | exact leafDraw (by kernel_rfl) | exact Leaf.mk trivial | (refine Leaf.mk ?_; omega) | (refine Leaf.mk ?_; unfold maxLen; omega)
  generalize hN : (if (b.length : Int) < (rdSmall b 0).1 then (b.length : Int) else (rdSmall b 0).1) = N
  have hNb : N ≤ (b.length : Int) := by rw [← hN]; split <;> omega
  generalize hb0 : (rdSmall b 0).2.1 = b0 at *
  generalize he0 : (rdSmall b 0).2.2 = e0
  have h0 : ∀ s, chkR s = 0 → putG s = b → N = s.length ∧ b0 = s.flatMap putR1 ∧ e0 = 0 := fun s hs hb => by
    have h1 := putG_small hb (by omega)
    have h2 := putG_ge s
    rw [hb] at h2
    rw [h1] at hN hb0 he0
    dsimp only at hN hb0 he0
    exact ⟨by rw [← hN, if_neg (by omega)], hb0.symm, he0.symm⟩
  refine LoopVC.weak [(.slot 5, .nil 29 RgT)] (fun a : Nat × List Int × Int × List Rg => [(15, .i .i64 a.1)]) (fun a => [(0, .box [.sl (.int .u8) a.2.1, .i .i64 a.2.2.1]), (1, .arr 29 RgT a.2.2.2)]) (fun a => (a.1 ≤ b.length ∧ a.2.1 <:+ b ∧ a.2.2.2.length = a.1 ∧ sumT a.2.2.2 + a.2.1.length ≤ b.length) ∧ ∀ s, chkR s = 0 → putG s = b → N = s.length ∧ a.1 ≤ s.length ∧ a.2.1 = (s.drop a.1).flatMap putR1 ∧ a.2.2.1 = 0 ∧ a.2.2.2 = s.take a.1) (fun a => b.length - a.1) (0, b0, e0, []) (Ev.mk ?_)
  (conv => whnf)
  refine ⟨Leaf.mk rfl, Leaf.mk ?_, ?_⟩
  · refine ⟨⟨Nat.zero_le _, hb1, rfl, by show 0 + b0.length ≤ _; omega⟩, fun s hs hb => ?_⟩
    obtain ⟨h1, h2, h3⟩ := h0 s hs hb
    exact ⟨h1, Nat.zero_le _, h2, h3, rfl⟩
  rintro ⟨i, rb, re, vs⟩ ⟨⟨hi, hrb, hvl, hsum⟩, hv⟩
  dsimp only at hi hrb hvl hsum hv ⊢
  have hrl := suf_len hrb
  have hs1 := rdText_suf rb re b.length
  have hs2 := rdText_suf (rdText rb re b.length).2.1 (rdText rb re b.length).2.2 b.length
  have hs1l := suf_len hs1
  have hs2l := suf_len hs2
  have hu1 := rdText_sum rb re b.length
  have hu2 := rdText_sum (rdText rb re b.length).2.1 (rdText rb re b.length).2.2 b.length
  have hgo : ∀ s, chkR s = 0 → putG s = b → i < s.length → rdText rb re b.length = ((s.getD i rg0).1, putText (s.getD i rg0).2 ++ (s.drop (i + 1)).flatMap putR1, 0) ∧ rdText (rdText rb re b.length).2.1 (rdText rb re b.length).2.2 b.length = ((s.getD i rg0).2, (s.drop (i + 1)).flatMap putR1, 0) := fun s hs hb hil => by
    obtain ⟨k1, k2, k3, k4, k5⟩ := hv s hs hb
    have hf := putG_fit hb (getD_mem rg0 hil)
    have e1 : rdText rb re b.length = ((s.getD i rg0).1, putText (s.getD i rg0).2 ++ (s.drop (i + 1)).flatMap putR1, 0) := by
      rw [k3, k4, drop_at rg0 hil, List.flatMap_cons, putR1, List.append_assoc]; exact rdText_put hf.1 _
    refine ⟨e1, ?_⟩
    rw [e1]
    exact rdText_put hf.2 _
  have hnew : sumT (vs ++ [((rdText rb re b.length).1, (rdText (rdText rb re b.length).2.1 (rdText rb re b.length).2.2 b.length).1)]) + (rdText (rdText rb re b.length).2.1 (rdText rb re b.length).2.2 b.length).2.1.length ≤ b.length := by
    rw [sumT_app]; simp only [sumT]; omega
  repeat' (first | ((with_reducible refine Ev.mk ?_); conv => whnf) | (with_reducible refine And.intro ?_ ?_) | (intro h))
  all_goals (try simp only [decide_eq_true_eq, decide_eq_false_iff_not, beq_iff_eq, bne_iff_ne, beq_eq_false_iff_ne, bne_eq_false_iff_eq, Int.toNat_natCast, ge_iff_le, gt_iff_lt, Bool.not_eq_true', Bool.not_eq_false', Int.not_lt, Int.not_le, ne_eq] at *)
  all_goals (try dsimp only [Ty.den, Ty.dflt, RgT, sNew, sText, sSmall] at *)
  all_goals (try simp only [eq4, ne4, eq3, ne3, eq2, ne2, Prod.eta, List.length_cons, List.length_nil, List.length_append, Nat.zero_add] at *)
  all_goals (try simp (disch := omega) only [wrap64] at *)
  all_goals try first | exact leafDraw (by kernel_rfl) | exact Leaf.mk trivial | (refine Leaf.mk ?_; omega) | (refine Leaf.mk ?_; unfold maxLen; omega)
  · have hlt : (i : Int) < N := by rw [← hN]; assumption
    refine Leaf.mk (Exists.intro (i + 1, (rdText (rdText rb re b.length).2.1 (rdText rb re b.length).2.2 b.length).2.1, (rdText (rdText rb re b.length).2.1 (rdText rb re b.length).2.2 b.length).2.2, vs ++ [((rdText rb re b.length).1, (rdText (rdText rb re b.length).2.1 (rdText rb re b.length).2.2 b.length).1)]) ⟨rfl, ⟨⟨by dsimp only; omega, hs2.trans (hs1.trans hrb), by simp; omega, hnew⟩, fun s hs hb => ?_⟩, by dsimp only; omega⟩)
    obtain ⟨k1, k2, k3, k4, k5⟩ := hv s hs hb
    obtain ⟨m1, m2⟩ := hgo s hs hb (by omega)
    dsimp only
    rw [m2]
    refine ⟨k1, by omega, rfl, rfl, ?_⟩
    rw [take_at rg0 (by omega), k5, m1]
  · exact Leaf.mk (show vs.length ≤ 60000 ∧ sumT vs ≤ 60000 from ⟨by omega, by omega⟩)
  all_goals
    have hge : N ≤ (i : Int) := by rw [← hN]; assumption
    have hsame : ∀ s, chkR s = 0 → putG s = b → vs = s := fun s hs hb => by
      obtain ⟨k1, k2, k3, k4, k5⟩ := hv s hs hb
      rw [k5, List.take_of_length_le (by omega)]
  · have h9 : ¬ (putGF vs).2 = 0 := by assumption
    refine Leaf.mk (retGG (u := ([], 4)) (v := getG b) ?_)
    rw [getG_not fun s hs hb => ?_]
    rw [hsame s hs hb, putGF, if_pos hs] at h9
    exact h9 rfl
  · have h8 : (putGF vs).2 = 0 := by assumption
    have h9 : (strOfBytes b == strOfBytes (putGF vs).1) = false := by assumption
    refine Leaf.mk (retGG (u := ([], 4)) (v := getG b) ?_)
    rw [getG_not fun s hs hb => ?_]
    rw [hsame s hs hb, putGF, if_pos hs, hb] at h9
    simp at h9
  · have h8 : (putGF vs).2 = 0 := by assumption
    have h9 : (strOfBytes b == strOfBytes (putGF vs).1) = true := by assumption
    have hc : chkR vs = 0 := by
      by_cases hc : chkR vs = 0
      · exact hc
      · rw [putGF, if_neg hc] at h8; exact absurd h8 hc
    rw [putGF, if_pos hc] at h9
    refine Leaf.mk (retGG (u := (vs, 0)) (v := getG b) ?_)
    rw [getG_put hc (str_inj hB (isB_G _) (eq_of_beq h9)).symm (by omega)]
end Go.Proofs.Ytbobjiaggngbmaa

set_option linter.unusedVariables false
set_option linter.unusedSimpArgs false
set_option maxRecDepth 8000
set_option maxHeartbeats 8000000
namespace Go.Proofs.Ytbobjiaggngbmaa
open Go.Eng
theorem behL_not {xs : List Int} (h : (behL xs).2 = false) : (behL xs).1 = [] := by
  unfold behL at h ⊢
  split
  · rfl
  · rename_i n hn
    rw [hn] at h
    simp at h
def prefR (p : Str) : Rg := (p, strOfBytes (behL (bytesOfStr p)).1)
theorem bos_len (p : Str) : (bytesOfStr p).length = p.length := by simp [bytesOfStr]
def sPrefA : PSpec := ⟨[.d .str], [⟨true, [.d RgT]⟩], fun x => List.length (α := UInt8) x.1 ≤ 10000, fun x => ((prefR x.1, ()), ())⟩
theorem fPrefA : FnOk Try.prog 32 := ⟨_, Try.func32, by decide, rfl⟩
theorem pPrefA : PSound Try.prog 32 sPrefA := by
  refine psound (T := tab) (S := (spOf [(60, sBehind.spec (lsOf []))])) (keep := k32) (by kernel_rfl) tabOk (spCons (pOk pBehind fBehind (by decide) lsNil) spNil) (by kernel_rfl) Try.func32 (by kernel_rfl) (by decide) fun xs hg hp => ?_
  obtain ⟨p, ⟨⟩⟩ := xs
  change List UInt8 at p
  change p.length ≤ 10000 at hp
  clear hg
  show vfun tab _ k32 Try.f32 [.s p] [] _
  refine Ev.out ?_
  repeat' (first | ((with_reducible refine Ev.mk ?_); conv => whnf) | (with_reducible refine And.intro ?_ ?_) | (intro h))
  all_goals (try simp only [decide_eq_true_eq, decide_eq_false_iff_not, beq_iff_eq, bne_iff_ne, beq_eq_false_iff_ne, bne_eq_false_iff_eq, Int.toNat_natCast, ge_iff_le, gt_iff_lt, Bool.not_eq_true', Bool.not_eq_false', Int.not_lt, Int.not_le, ne_eq] at *)
  all_goals (try dsimp only [Ty.den, Ty.dflt, RgT, sBehind] at *)
  all_goals (try simp only [eq4, ne4, eq3, ne3, eq2, ne2, Prod.eta, List.length_cons, List.length_nil, List.length_append, Nat.zero_add] at *)
  all_goals (try simp (disch := omega) only [wrap64] at *)
  all_goals try first | exact leafDraw (by kernel_rfl) | exact Leaf.mk trivial | (refine Leaf.mk ?_; omega) | (refine Leaf.mk ?_; unfold maxLen; omega)
  all_goals first
    | exact Leaf.mk (show (bytesOfStr p).length ≤ 100000 by rw [bos_len]; omega)
    | exact Leaf.mk (ret1 rfl)
instance (l : List Rg) : Decidable (okG l) := by unfold okG; infer_instance
def sAwake32 : PSpec := ⟨[], [⟨false, [.d .bool]⟩], fun _ => True, fun _ => ((true, ()), ())⟩
theorem fAwake32 : FnOk Try.prog 9 := ⟨_, Try.func9, by decide, rfl⟩
theorem pAwake32 : PSound Try.prog 9 sAwake32 := by
  refine psound (T := tab) (S := (spOf [(12, sPlainA.spec (lsOf [])), (20, sGapsA.spec (lsOf [])), (16, sRemoveA.spec (lsOf [])), (24, sPutG.spec (lsOf [])), (26, sGetG.spec (lsOf [])), (34, sSameA.spec (lsOf [])), (14, sAddA.spec (lsOf [])), (18, sBothA.spec (lsOf [])), (22, sCoversA.spec (lsOf [])), (28, sHasA.spec (lsOf [])), (32, sPrefA.spec (lsOf [])), (30, sCheckA.spec (lsOf []))])) (keep := k9) (by kernel_rfl) tabOk (spCons (pOk pPlainA fPlainA (by decide) lsNil) (spCons (pOk pGapsA fGapsA (by decide) lsNil) (spCons (pOk pRemoveA fRemoveA (by decide) lsNil) (spCons (pOk pPutG fPutG (by decide) lsNil) (spCons (pOk pGetG fGetG (by decide) lsNil) (spCons (pOk pSameA fSameA (by decide) lsNil) (spCons (pOk pAddA fAddA (by decide) lsNil) (spCons (pOk pBothA fBothA (by decide) lsNil) (spCons (pOk pCoversA fCoversA (by decide) lsNil) (spCons (pOk pHasA fHasA (by decide) lsNil) (spCons (pOk pPrefA fPrefA (by decide) lsNil) (spCons (pOk pCheckA fCheckA (by decide) lsNil) spNil)))))))))))) (by kernel_rfl) Try.func9 (by kernel_rfl) (by decide) fun xs hg hp => ?_
  obtain ⟨⟩ := xs
  show vfun tab _ k9 Try.f9 [] [] _
  refine Ev.out ?_
  repeat' (first | ((with_reducible refine Ev.mk ?_); conv => whnf) | (with_reducible refine And.intro ?_ ?_) | (intro h; first | exact absurd h (by decide +kernel) | skip))
  all_goals first
    | exact Leaf.mk trivial
    | exact leafDraw (by kernel_rfl)
    | (refine Leaf.mk ?_; change okG _; decide +kernel)
    | (refine Leaf.mk ?_; change (_ : Nat) ≤ _; decide +kernel)
    | (refine Leaf.mk ?_; change (_ : Nat) ≤ _ ∧ (_ : Nat) ≤ _; decide +kernel)
    | (refine Leaf.mk ?_; decide +kernel)
    | exact Leaf.mk rfl
    | skip
end Go.Proofs.Ytbobjiaggngbmaa

set_option linter.unusedVariables false
set_option linter.unusedSimpArgs false
set_option maxRecDepth 8000
set_option maxHeartbeats 8000000
namespace Go.Proofs.Ytbobjiaggngbmaa
open Go.Eng
def ffP (p : Str) (i : Nat) : Bool := (p.take i).all fun c => c == 255
theorem behN_zero (xs : List Int) : ∀ n, behN xs n = 0 ↔ ∀ j, j < n → xs.getD j 0 = 255
  | 0 => ⟨fun _ j hj => by omega, fun _ => rfl⟩
  | n + 1 => by
    rw [behN]
    split
    · rename_i h
      rw [behN_zero xs n]
      exact ⟨fun h1 j hj => by
        rcases Nat.lt_or_ge j n with h2 | h2
        · exact h1 j h2
        · obtain rfl : j = n := by omega
          exact h, fun h1 j hj => h1 j (by omega)⟩
    · rename_i h
      exact ⟨fun h1 => by omega, fun h1 => absurd (h1 n (by omega)) h⟩
theorem bos_at (p : Str) {j : Nat} (h : j < p.length) : (bytesOfStr p).getD j 0 = ((p.getD j 0).toNat : Int) := by
  simp [bytesOfStr, List.getD_eq_getElem?_getD, List.getElem?_eq_getElem h]
theorem beh_ff (p : Str) : (behL (bytesOfStr p)).2 = !ffP p p.length := by
  have h1 : (behL (bytesOfStr p)).2 = false ↔ behN (bytesOfStr p) (bytesOfStr p).length = 0 := by
    unfold behL
    split
    · rename_i h; rw [h]; simp
    · rename_i h; rw [h]; simp
  have h2 : ffP p p.length = true ↔ ∀ j, j < (bytesOfStr p).length → (bytesOfStr p).getD j 0 = 255 := by
    unfold ffP
    rw [List.take_length, List.all_eq_true, bos_len]
    constructor
    · intro h j hj
      have := h (p.getD j 0) (getD_mem 0 hj)
      rw [bos_at p hj, beq_iff_eq.1 this]; rfl
    · intro h c hc
      obtain ⟨j, hj, rfl⟩ := List.mem_iff_getElem.1 hc
      have := h j hj
      rw [bos_at p hj, List.getD_eq_getElem?_getD, List.getElem?_eq_getElem hj] at this
      rw [beq_iff_eq, ← UInt8.toNat_inj]
      simp only [Option.getD_some] at this
      have h9 : p[j].toNat = 255 := by omega
      rw [h9]; rfl
  rw [behN_zero, ← h2] at h1
  cases h : ffP p p.length
  · rw [h] at h1
    cases hb : (behL (bytesOfStr p)).2
    · exact absurd (h1.1 hb) (by simp)
    · rfl
  · exact h1.2 h
theorem not_lt_iff {a : Int} : ¬ a < 0 ↔ 0 ≤ a := by omega
theorem isB_bos (p : Str) : isB (bytesOfStr p) := fun x hx => by
  obtain ⟨c, -, rfl⟩ := List.mem_map.1 hx
  have := c.toNat_lt
  omega
theorem pref_ff {p : Str} (h : ffP p p.length = true) : (prefR p).2 = [] ∧ ∀ k, hasRg [prefR p] k = !sless k p := by
  have h1 : (behL (bytesOfStr p)).1 = [] := behL_not (by rw [beh_ff, h]; rfl)
  have h2 : (prefR p).2 = [] := by show strOfBytes (behL (bytesOfStr p)).1 = []; rw [h1]; rfl
  refine ⟨h2, fun k => ?_⟩
  rw [has_one, inRg, h2]
  show (!sless k p && (true || _)) = _
  simp
theorem pref_no {p : Str} (h : ffP p p.length = false) (k : Str) : hasRg [prefR p] k = decide (p.length ≤ k.length ∧ k.take p.length = p) := by
  have hb : (behL (bytesOfStr p)).2 = true := by rw [beh_ff, h]; rfl
  have h1 := ((behind_facts (b := bytesOfStr p) (m := []) (o := bytesOfStr k) (isB_bos p) (isB_bos k) (fun x hx => by cases hx)).2 hb).2
  rw [str_bytes, str_bytes, bos_len, bos_len, ← not_lt_iff, cmpB_lt, cmpB_lt, show (bytesOfStr k).take p.length = bytesOfStr (k.take p.length) from List.map_take.symm, str_bytes] at h1
  have hne : strOfBytes (behL (bytesOfStr p)).1 ≠ [] := by
    unfold behL at hb ⊢
    split at hb
    · cases hb
    · simp [strOfBytes]
  rw [has_one, Bool.eq_iff_iff, inRg_iff, decide_eq_true_iff, ← h1]
  exact ⟨fun ⟨h2, h3⟩ => ⟨h2, h3.resolve_left hne⟩, fun ⟨h2, h3⟩ => ⟨h2, .inr h3⟩⟩
theorem pref_more {p : Str} (h : ffP p p.length = false) (k : Str) : hasRg [prefR p] (p ++ k) = true := by
  rw [pref_no h, decide_eq_true_iff]
  exact ⟨by simp, by simp⟩
theorem u8_is (c : UInt8) : (c == 255) = ((c.toNat : Int) == 255) := by
  rw [Bool.eq_iff_iff, beq_iff_eq, beq_iff_eq, ← UInt8.toNat_inj]
  show c.toNat = 255 ↔ _
  omega
def sRangesetPrefix : PSpec := lawSpec [.str, .str]
theorem pRangesetPrefix : PSound Try.prog 7 sRangesetPrefix := by
  refine psound (T := tab) (S := (spOf [(9, sAwake32.spec (lsOf [])), (32, sPrefA.spec (lsOf [])), (28, sHasA.spec (lsOf []))])) (keep := k7) (by kernel_rfl) tabOk (spCons (pOk pAwake32 fAwake32 (by decide) lsNil) (spCons (pOk pPrefA fPrefA (by decide) lsNil) (spCons (pOk pHasA fHasA (by decide) lsNil) spNil))) (by kernel_rfl) Try.func7 (by kernel_rfl) (by decide) fun xs hg hp => ?_
  obtain ⟨p, k, ⟨⟩⟩ := xs
  change List UInt8 at p k
  obtain ⟨hl, hl2, -⟩ := hg
  change p.length ≤ _ at hl
  change k.length ≤ _ at hl2
  have hl := len63 hl
  have hl2 := len63 hl2
  show vfun tab _ k7 Try.f7 [.s p, .s k] [] _
  refine Ev.out ?_
  repeat' (first | ((with_reducible refine Ev.mk ?_); conv => whnf) | (with_reducible refine And.intro ?_ ?_) | (intro h))
  all_goals (try simp only [decide_eq_true_eq, decide_eq_false_iff_not, beq_iff_eq, bne_iff_ne, beq_eq_false_iff_ne, bne_eq_false_iff_eq, Int.toNat_natCast, ge_iff_le, gt_iff_lt, Bool.not_eq_true', Bool.not_eq_false', Int.not_lt, Int.not_le, ne_eq] at *)
  all_goals (try dsimp only [Ty.den, Ty.dflt, RgT, sPrefA, sHasA] at *)
  all_goals (try simp only [eq4, ne4, eq3, ne3, eq2, ne2, Prod.eta, List.length_cons, List.length_nil, List.length_append, Nat.zero_add] at *)
  all_goals (try simp (disch := omega) only [wrap64] at *)
  all_goals try first | exact leafDraw (by kernel_rfl) | exact Leaf.mk trivial | (refine Leaf.mk ?_; omega) | (refine Leaf.mk ?_; unfold maxLen; omega)
  all_goals try first
    | exact Leaf.mk rfl
    | (refine Leaf.mk ?_; omega)
  refine LoopVC.weak2 [(.slot 6, .b)] (fun i : Nat => [(6, .b (ffP p i)), (7, .i .i64 i)]) (fun _ => []) (fun i => i ≤ p.length) (fun i => p.length - i) 0 (Ev.mk ?_)
  (conv => whnf)
  refine ⟨Leaf.mk ?_, Leaf.mk ?_, ?_⟩
  · rfl
  · omega
  intro i hi
  have hat : ∀ h : i < p.length, ffP p (i + 1) = (ffP p i && (p.getD i 0 == 255)) := fun h => by
    unfold ffP
    rw [take_at 0 h, List.all_append]; simp
  have hfin : p.length ≤ i → ffP p i = ffP p p.length := fun h => by unfold ffP; rw [List.take_of_length_le h, List.take_length]
  generalize hF : ffP p i = F at *
  repeat' (first | ((with_reducible refine Ev.mk ?_); conv => whnf) | (with_reducible refine And.intro ?_ ?_) | (intro h))
  all_goals (try simp only [decide_eq_true_eq, decide_eq_false_iff_not, beq_iff_eq, bne_iff_ne, beq_eq_false_iff_ne, bne_eq_false_iff_eq, Int.toNat_natCast, ge_iff_le, gt_iff_lt, Bool.not_eq_true', Bool.not_eq_false', Int.not_lt, Int.not_le, ne_eq] at *)
  all_goals (try dsimp only [Ty.den, Ty.dflt, RgT, sHasA] at *)
  all_goals (try simp only [eq4, ne4, eq3, ne3, eq2, ne2, Prod.eta, List.length_cons, List.length_nil, List.length_append, Nat.zero_add] at *)
  all_goals (try simp (disch := omega) only [wrap64] at *)
  all_goals try first | exact leafDraw (by kernel_rfl) | exact Leaf.mk trivial | (refine Leaf.mk ?_; omega) | (refine Leaf.mk ?_; unfold maxLen; omega)
  · refine Leaf.mk ⟨i + 1, .inl ?_, by omega, by omega⟩
    rw [hat (by omega), show F = true from by assumption, Bool.true_and, u8_is]; rfl
  · refine Leaf.mk ⟨i + 1, .inr ⟨[(.slot 6, .b)], ?_⟩, by omega, by omega⟩
    (conv => whnf)
    rw [hat (by omega), show F = false from by assumption, Bool.false_and]; rfl
  all_goals
    have hF2 : F = ffP p p.length := hfin (by omega)
    have hcut : p.length ≤ k.length → List.drop (Int.toNat 0) (List.take (if (k.length : Int) < (p.length : Int) then (k.length : Int) else (p.length : Int)).toNat k) = k.take p.length := fun h => by
      rw [if_neg (by omega), Int.toNat_natCast]; rfl
    clear hat hfin
    first
    | exact Leaf.mk rfl
    | skip
  all_goals
    exfalso
    first
    | (have h8 : F = true := by assumption
       obtain ⟨q1, q2⟩ := pref_ff (hF2.symm.trans h8)
       first
       | exact absurd q1 (by assumption)
       | exact absurd (q2 k) (by assumption))
    | (have h8 : F = false := by assumption
       have q1 := pref_no (hF2.symm.trans h8) k
       have q2 := pref_more (hF2.symm.trans h8) k
       clear hF2 hF
       have hlen : p.length ≤ k.length ∨ k.length < p.length := by omega
       rcases hlen with hlen | hlen
       · have hc := hcut hlen
         clear hcut
         have hlen2 : ¬ (k.length : Int) < (p.length : Int) := by omega
         generalize hasRg [prefR p] k = A at *
         generalize hasRg [prefR p] (p ++ k) = B at *
         first
         | (subst q1; subst q2; first | (exact absurd rfl (by assumption)) | (rw [hc] at *; simp_all; done))
         | (simp_all; done)
       · clear hcut
         generalize hasRg [prefR p] k = A at *
         generalize hasRg [prefR p] (p ++ k) = B at *
         have h3 : ¬ p.length ≤ k.length := by omega
         simp_all
         done)
    | skip
  have h8 : F = false := by assumption
  have q1 := pref_no (hF2.symm.trans h8) k
  refine (show ¬ hasRg [prefR p] k = (List.drop (Int.toNat 0) _ == p) from by assumption) (q1.trans ?_)
  erw [hcut (by omega)]
  rw [Bool.eq_iff_iff, decide_eq_true_iff, beq_iff_eq]
  exact ⟨fun h => h.2, fun h => ⟨by omega, h⟩⟩
end Go.Proofs.Ytbobjiaggngbmaa
