import Derived.Test.YtlfehkoklgmjjaaTab
import Derived.Test.YtlfehkoklgmjjaaEngPl
import Derived.Test.YtlfehkoklgmjjaaEngY



set_option linter.unusedVariables false
set_option linter.unusedSimpArgs false
namespace Go.Proofs.Ytlfehkoklgmjjaa
open Go.Eng
abbrev TxT : Ty := .slice .str
abbrev Tx := List (List UInt8)
abbrev EntT : Ty := .pair (.int .i64) (.slice .str)
abbrev Ent := Int × List (List UInt8)
def has (l : Tx) (k : List UInt8) : Bool := decide (k ∈ l)
def sHas : PSpec := ⟨[.d TxT, .d .str], [⟨false, [.d .bool]⟩], fun _ => True, fun x => ((has x.1 x.2.1, ()), ())⟩
theorem has_at {xs : Tx} {i : Nat} {k : List UInt8} (h : i < xs.length) : has (xs.drop i) k = (decide (k = xs.getD i []) || has (xs.drop (i + 1)) k) := by
  rw [drop_at [] h, has, decide_mem_cons]; rfl
def sHasR : PSpec := sHas
theorem fHasR : FnOk Try.prog 84 := ⟨_, Try.func84, by decide, rfl⟩
theorem pHasR : PSound Try.prog 84 sHasR := by
  refine psound (T := tab) (S := (spOf [])) (keep := k84) (by kernel_rfl) tabOk spNil (by kernel_rfl) Try.func84 (by kernel_rfl) (by decide) fun xs hg hp => ?_
  obtain ⟨xs, k, ⟨⟩⟩ := xs
  obtain ⟨⟨hl, -⟩, -⟩ := hg
  change List (List UInt8) at xs
  change xs.length ≤ _ at hl
  have hl := len63 hl
  clear hp
  change List UInt8 at k
  show vfun tab _ k84 Try.f84 [.sl .str xs, .s k] [] _
  refine Ev.out ?_
  repeat' (first | ((with_reducible refine Ev.mk ?_); conv => whnf) | (with_reducible refine And.intro ?_ ?_) | (intro h))
  refine LoopVC.on (fun i : Nat => [(5, .i .i64 i)]) (fun _ => []) (fun i => i ≤ xs.length ∧ has xs k = has (xs.drop i) k) (fun i => xs.length - i) 0 rfl ⟨by omega, rfl⟩ ?_
  intro i ⟨hi, he⟩
  repeat' (first | ((with_reducible refine Ev.mk ?_); conv => whnf) | (with_reducible refine And.intro ?_ ?_) | (intro h))
  all_goals (try simp only [decide_eq_true_eq, decide_eq_false_iff_not, beq_iff_eq, bne_iff_ne, beq_eq_false_iff_ne, bne_eq_false_iff_eq, Int.toNat_natCast, ge_iff_le, gt_iff_lt, Bool.not_eq_true', Bool.not_eq_false', Int.not_lt, Int.not_le, ne_eq] at *)
  all_goals (try dsimp only [Ty.den, Ty.dflt, TxT] at *)
  all_goals (try simp only [eq4, ne4, eq3, ne3, eq2, ne2, Prod.eta, List.length_cons, List.length_nil, List.length_append, Nat.zero_add] at *)
  all_goals (try simp (disch := omega) only [wrap64] at *)
  all_goals try first | exact leafDraw (by kernel_rfl) | exact Leaf.mk trivial | (refine Leaf.mk ?_; omega) | (refine Leaf.mk ?_; unfold maxLen; omega)
  all_goals first
    | (rw [drop_end (by omega)] at he; exact Leaf.mk (ret1 he.symm))
    | (rw [has_at (by omega), decide_eq_true h.symm, Bool.true_or] at he; exact Leaf.mk (ret1 he.symm))
    | (rw [has_at (by omega), decide_eq_false (Ne.symm h), Bool.false_or] at he; exact Leaf.mk ⟨i + 1, rfl, ⟨by omega, he⟩, by omega⟩)
def meet (a b : Tx) : Bool := a.any (has b)
def sMeet : PSpec := ⟨[.d TxT, .d TxT], [⟨false, [.d .bool]⟩], fun _ => True, fun x => ((meet x.1 x.2.1, ()), ())⟩
def sMeetR : PSpec := sMeet
theorem fMeetR : FnOk Try.prog 32 := ⟨_, Try.func32, by decide, rfl⟩
theorem pMeetR : PSound Try.prog 32 sMeetR := by
  refine psound (T := tab) (S := (spOf [(84, sHasR.spec (lsOf []))])) (keep := k32) (by kernel_rfl) tabOk (spCons (pOk pHasR fHasR (by decide) lsNil) spNil) (by kernel_rfl) Try.func32 (by kernel_rfl) (by decide) fun xs hg hp => ?_
  obtain ⟨xs, ys, ⟨⟩⟩ := xs
  obtain ⟨⟨hl, -⟩, -⟩ := hg
  change List (List UInt8) at xs
  change xs.length ≤ _ at hl
  have hl := len63 hl
  clear hp
  change List (List UInt8) at ys
  show vfun tab _ k32 Try.f32 [.sl .str xs, .sl .str ys] [] _
  refine Ev.out ?_
  repeat' (first | ((with_reducible refine Ev.mk ?_); conv => whnf) | (with_reducible refine And.intro ?_ ?_) | (intro h))
  refine LoopVC.on (fun i : Nat => [(5, .i .i64 i)]) (fun _ => []) (fun i => i ≤ xs.length ∧ meet xs ys = meet (xs.drop i) ys) (fun i => xs.length - i) 0 rfl ⟨by omega, rfl⟩ ?_
  intro i ⟨hi, he⟩
  repeat' (first | ((with_reducible refine Ev.mk ?_); conv => whnf) | (with_reducible refine And.intro ?_ ?_) | (intro h))
  all_goals (try simp only [decide_eq_true_eq, decide_eq_false_iff_not, beq_iff_eq, bne_iff_ne, beq_eq_false_iff_ne, bne_eq_false_iff_eq, Int.toNat_natCast, ge_iff_le, gt_iff_lt, Bool.not_eq_true', Bool.not_eq_false', Int.not_lt, Int.not_le, ne_eq] at *)
  all_goals (try dsimp only [Ty.den, Ty.dflt, TxT, sHasR, sHas] at *)
  all_goals (try simp only [eq4, ne4, eq3, ne3, eq2, ne2, Prod.eta, List.length_cons, List.length_nil, List.length_append, Nat.zero_add] at *)
  all_goals (try simp (disch := omega) only [wrap64] at *)
  all_goals try first | exact leafDraw (by kernel_rfl) | exact Leaf.mk trivial | (refine Leaf.mk ?_; omega) | (refine Leaf.mk ?_; unfold maxLen; omega)
  all_goals first
    | (unfold meet at he; rw [any_end (by omega)] at he; exact Leaf.mk (ret1 he.symm))
    | (unfold meet at he; rw [any_hit [] (by omega) (by assumption)] at he; exact Leaf.mk (ret1 he.symm))
    | (unfold meet at he; rw [any_skip [] (by omega) (by assumption)] at he; exact Leaf.mk ⟨i + 1, rfl, ⟨by omega, he⟩, by omega⟩)
theorem fMeet1 : FnOk Try.prog 86 := ⟨_, Try.func86, by decide, rfl⟩
noncomputable def iMeet1 : Eng.Spec := inl tab (spOf []) k86 Try.f86
theorem pMeet1 : SpecOk Try.prog 86 iMeet1 := inl_ok tabOk spNil (by kernel_rfl) Try.func86 (by kernel_rfl)
theorem fIndexFuncS : FnOk Try.prog 142 := ⟨_, Try.func142, by decide, rfl⟩
noncomputable def iIndexFuncS : Eng.Spec := inl tab (spOf [(86, iMeet1)]) k142 Try.f142
theorem pIndexFuncS : SpecOk Try.prog 142 iIndexFuncS := inl_ok tabOk (spCons (.inl ⟨pMeet1, fMeet1⟩) spNil) (by kernel_rfl) Try.func142 (by kernel_rfl)
theorem fContainsFuncS : FnOk Try.prog 85 := ⟨_, Try.func85, by decide, rfl⟩
noncomputable def iContainsFuncS : Eng.Spec := inl tab (spOf [(142, iIndexFuncS)]) k85 Try.f85
theorem pContainsFuncS : SpecOk Try.prog 85 iContainsFuncS := inl_ok tabOk (spCons (.inl ⟨pIndexFuncS, fIndexFuncS⟩) spNil) (by kernel_rfl) Try.func85 (by kernel_rfl)
theorem fMeet : FnOk Try.prog 31 := ⟨_, Try.func31, by decide, rfl⟩
theorem pMeet : PSound Try.prog 31 sMeet := by
  refine psound (T := tab) (S := (spOf [(85, iContainsFuncS)])) (keep := k31) (by kernel_rfl) tabOk (spCons (.inl ⟨pContainsFuncS, fContainsFuncS⟩) spNil) (by kernel_rfl) Try.func31 (by kernel_rfl) (by decide) fun xs hg hp => ?_
  obtain ⟨xs, ys, ⟨⟩⟩ := xs
  obtain ⟨⟨hl, -⟩, ⟨hl2, -⟩, -⟩ := hg
  change List (List UInt8) at xs
  change List (List UInt8) at ys
  change xs.length ≤ _ at hl
  change ys.length ≤ _ at hl2
  have hl := len63 hl
  have hl2 := len63 hl2
  clear hp
  show vfun tab _ k31 Try.f31 [.sl .str xs, .sl .str ys] [] _
  refine Ev.out ?_
  repeat' (first | ((with_reducible refine Ev.mk ?_); conv => whnf) | (with_reducible refine And.intro ?_ ?_) | (intro h))
  all_goals (try simp only [decide_eq_true_eq, decide_eq_false_iff_not, beq_iff_eq, bne_iff_ne, beq_eq_false_iff_ne, bne_eq_false_iff_eq, Int.toNat_natCast, ge_iff_le, gt_iff_lt, Bool.not_eq_true', Bool.not_eq_false', Int.not_lt, Int.not_le, ne_eq] at *)
  all_goals (try dsimp only [Ty.den, Ty.dflt, TxT] at *)
  all_goals (try simp only [eq4, ne4, eq3, ne3, eq2, ne2, Prod.eta, List.length_cons, List.length_nil, List.length_append, Nat.zero_add] at *)
  all_goals (try simp (disch := omega) only [wrap64] at *)
  all_goals try first | exact leafDraw (by kernel_rfl) | exact Leaf.mk trivial | (refine Leaf.mk ?_; omega) | (refine Leaf.mk ?_; unfold maxLen; omega)
  refine LoopVC.on (fun a : Nat × List (List UInt8 × Bool) => [(11, .i .i64 a.1)]) (fun a => [(1, .map .str .bool a.2)]) (fun a => a.1 ≤ xs.length ∧ ∀ k, mapGet .str k false a.2 = true ↔ k ∈ xs.take a.1) (fun a => xs.length - a.1) (0, []) rfl ⟨by simp, fun c => by simp [mapGet]⟩ ?_
  intro ⟨i, l⟩ ⟨hi, hm⟩
  change i ≤ xs.length at hi
  dsimp only at hm ⊢
  repeat' (first | ((with_reducible refine Ev.mk ?_); conv => whnf) | (with_reducible refine And.intro ?_ ?_) | (intro h))
  all_goals (try simp only [decide_eq_true_eq, decide_eq_false_iff_not, beq_iff_eq, bne_iff_ne, beq_eq_false_iff_ne, bne_eq_false_iff_eq, Int.toNat_natCast, ge_iff_le, gt_iff_lt, Bool.not_eq_true', Bool.not_eq_false', Int.not_lt, Int.not_le, ne_eq] at *)
  all_goals (try dsimp only [Ty.den, Ty.dflt, TxT] at *)
  all_goals (try simp only [eq4, ne4, eq3, ne3, eq2, ne2, Prod.eta, List.length_cons, List.length_nil, List.length_append, Nat.zero_add] at *)
  all_goals (try simp (disch := omega) only [wrap64] at *)
  all_goals try first | exact leafDraw (by kernel_rfl) | exact Leaf.mk trivial | (refine Leaf.mk ?_; omega) | (refine Leaf.mk ?_; unfold maxLen; omega)
  · refine Leaf.mk ⟨(i + 1, _), rfl, ⟨by show i + 1 ≤ _; omega, fun k => ?_⟩, by show _ - (i + 1) < _; omega⟩
    show mapGet .str k false (mapPut .str (xs.getD i []) true l) = true ↔ k ∈ xs.take (i + 1)
    rw [mapGet_put keyEq_str, take_at [] (by omega), List.mem_append, List.mem_singleton]
    split
    · rename_i hk; simp [(keyEq_str _ _).1 hk]
    · rename_i hk
      rw [keyEq_str] at hk
      rw [hm]
      exact ⟨Or.inl, fun hh => hh.elim id (fun e => absurd e hk)⟩
  rw [List.take_of_length_le (by omega)] at hm
  have hme : ∀ zs : List (List UInt8), (∀ k, mapGet .str k false l = true ↔ k ∈ xs) → zs.any (fun k => mapGet .str k false l) = zs.any (has xs) := fun zs hz => by
    refine congrArg (fun f => zs.any f) (funext fun k => ?_)
    rw [has, Bool.eq_iff_iff, hz, decide_eq_true_iff]
  have hcomm : meet xs ys = ys.any (fun k => mapGet .str k false l) := by
    rw [hme ys hm, meet, Bool.eq_iff_iff, List.any_eq_true, List.any_eq_true]
    constructor
    · rintro ⟨x, h1, h2⟩; exact ⟨x, of_decide_eq_true h2, decide_eq_true h1⟩
    · rintro ⟨x, h1, h2⟩; exact ⟨x, of_decide_eq_true h2, decide_eq_true h1⟩
  refine LoopVC.on (fun j : Nat => [(8, .i .i64 j)]) (fun _ => []) (fun j => j ≤ ys.length ∧ meet xs ys = (ys.drop j).any (fun k => mapGet .str k false l)) (fun j => ys.length - j) 0 rfl ⟨by omega, hcomm⟩ ?_
  intro j ⟨hj, he⟩
  repeat' (first | ((with_reducible refine Ev.mk ?_); conv => whnf) | (with_reducible refine And.intro ?_ ?_) | (intro h))
  all_goals (try simp only [decide_eq_true_eq, decide_eq_false_iff_not, beq_iff_eq, bne_iff_ne, beq_eq_false_iff_ne, bne_eq_false_iff_eq, Int.toNat_natCast, ge_iff_le, gt_iff_lt, Bool.not_eq_true', Bool.not_eq_false', Int.not_lt, Int.not_le, ne_eq] at *)
  all_goals (try dsimp only [Ty.den, Ty.dflt, TxT] at *)
  all_goals (try simp only [eq4, ne4, eq3, ne3, eq2, ne2, Prod.eta, List.length_cons, List.length_nil, List.length_append, Nat.zero_add] at *)
  all_goals (try simp (disch := omega) only [wrap64] at *)
  all_goals try first | exact leafDraw (by kernel_rfl) | exact Leaf.mk trivial | (refine Leaf.mk ?_; omega) | (refine Leaf.mk ?_; unfold maxLen; omega)
  · rw [any_hit [] (by omega) (by assumption)] at he
    exact Leaf.mk (ret1 (show decide ((0 : Int) ≤ (j : Int)) = meet xs ys by rw [he]; exact decide_eq_true (by omega)))
  · rw [any_skip [] (by omega) (by assumption)] at he
    exact Leaf.mk ⟨j + 1, rfl, ⟨by omega, he⟩, by omega⟩
  · rw [any_end (by omega)] at he
    exact Leaf.mk (ret1 (show decide ((0 : Int) ≤ -1) = meet xs ys by rw [he]; rfl))
end Go.Proofs.Ytlfehkoklgmjjaa
