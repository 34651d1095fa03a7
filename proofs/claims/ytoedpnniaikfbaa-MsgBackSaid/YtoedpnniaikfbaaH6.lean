import Derived.Test.YtoedpnniaikfbaaH5
import Derived.Test.YtoedpnniaikfbaaEng4
import Derived.Test.YtoedpnniaikfbaaH4



set_option linter.unusedVariables false
set_option linter.unusedSimpArgs false
set_option maxRecDepth 8000
set_option maxHeartbeats 4000000
namespace Go.Proofs.Ytoedpnniaikfbaa
open Go.Eng
theorem fKeys1i : FnOk Try.prog 73 := ⟨_, Try.func73, by decide, rfl⟩
noncomputable def iKeys1i : Eng.Spec := inl tab (spOf []) k73 Try.f73
theorem pKeys1i : SpecOk Try.prog 73 iKeys1i := inl_ok tabOk spNil (by kernel_rfl) Try.func73 (by kernel_rfl)
theorem fPickedK : FnOk Try.prog 71 := ⟨_, Try.func71, by decide, rfl⟩
noncomputable def iPickedK : Eng.Spec := inl tab (spOf [(73, iKeys1i)]) k71 Try.f71
theorem pPickedK : SpecOk Try.prog 71 iPickedK := inl_ok tabOk (spCons (.inl ⟨pKeys1i, fKeys1i⟩) spNil) (by kernel_rfl) Try.func71 (by kernel_rfl)
def kyN (fs : List Msg) (j : Nat) : List (List UInt8) := (fs.take j).map (·.2.1)
theorem kyN_len (fs : List Msg) (j : Nat) : (kyN fs j).length ≤ j := by rw [kyN, List.length_map, List.length_take]; omega
theorem kyN_at {fs : List Msg} {j : Nat} (h : j < fs.length) : kyN fs (j + 1) = kyN fs j ++ [(fs.getD j msg0).2.1] := map_at msg0 h
def keysL (lo hi : List UInt8) (l : List Msg) : List (List UInt8) := (l.filter (wrP lo hi)).map (·.2.1)
def keysF (lo hi : List UInt8) (l : List Msg) : List (List UInt8) := (keysL lo hi l).foldl addK []
def sKeys : PSpec := ⟨[.d MsT, .d .str, .d .str], [⟨false, [.d (.slice .str)]⟩], fun x => List.length x.1 ≤ 100000, fun x => ((keysF x.2.1 x.2.2.1 x.1, ()), ())⟩
theorem fKeys : FnOk Try.prog 29 := ⟨_, Try.func29, by decide, rfl⟩
theorem pKeys : PSound Try.prog 29 sKeys := by
  refine psound (T := tab) (S := (spOf [(71, iPickedK), (73, iKeys1i), (74, iSort), (75, sCompact.spec)])) (keep := k29) (by kernel_rfl) tabOk (spCons (.inl ⟨pPickedK, fPickedK⟩) (spCons (.inl ⟨pKeys1i, fKeys1i⟩) (spCons (.inl ⟨pSort, fSort⟩) (spCons (.inl ⟨pCompact, fCompact⟩) spNil)))) (by kernel_rfl) Try.func29 (by kernel_rfl) (by decide) fun xs hg hp => ?_
  obtain ⟨l, lo, hi, ⟨⟩⟩ := xs
  change List Msg at l
  change List UInt8 at lo hi
  change l.length ≤ 100000 at hp
  clear hg
  show vfun tab _ k29 Try.f29 [.sl MsgT l, .s lo, .s hi] [] _
  refine Ev.out ?_
  repeat' (first | ((with_reducible refine Ev.mk ?_); conv => whnf) | (with_reducible refine And.intro ?_ ?_) | (intro h))
  all_goals (try simp only [decide_eq_true_eq, decide_eq_false_iff_not, beq_iff_eq, bne_iff_ne, beq_eq_false_iff_ne, bne_eq_false_iff_eq, Int.toNat_natCast, ge_iff_le, gt_iff_lt, Bool.not_eq_true', Bool.not_eq_false', Int.not_lt, Int.not_le, ne_eq] at *)
  all_goals (try dsimp only [Ty.den, Ty.dflt, MsgT] at *)
  all_goals (try simp only [eq4, ne4, eq3, ne3, eq2, ne2, Prod.eta, List.length_cons, List.length_nil, List.length_append, Nat.zero_add] at *)
  all_goals (try simp (disch := omega) only [wrap64] at *)
  all_goals try first | exact leafDraw (by kernel_rfl) | exact Leaf.mk trivial | (refine Leaf.mk ?_; omega) | (refine Leaf.mk ?_; unfold maxLen; omega)
  refine LoopVC.weak [(.slot 5, .nil 32 MsgT)] (fun i : Nat => [(10, .i .i64 i)]) (fun i => [(18, .arr 32 MsgT (flN (wrP lo hi) l i))]) (fun i => i ≤ l.length) (fun i => l.length - i) 0 (Ev.mk ?_)
  (conv => whnf)
  refine ⟨Leaf.mk rfl, Leaf.mk ?_, ?_⟩
  · omega
  intro i hii
  have hfl := flN_len (wrP lo hi) l i
  repeat' (first | ((with_reducible refine Ev.mk ?_); conv => whnf) | (with_reducible refine And.intro ?_ ?_) | (intro h))
  all_goals (try simp only [decide_eq_true_eq, decide_eq_false_iff_not, beq_iff_eq, bne_iff_ne, beq_eq_false_iff_ne, bne_eq_false_iff_eq, Int.toNat_natCast, ge_iff_le, gt_iff_lt, Bool.not_eq_true', Bool.not_eq_false', Int.not_lt, Int.not_le, ne_eq] at *)
  all_goals (try dsimp only [Ty.den, Ty.dflt, MsgT, sAboutR, sAbout] at *)
  all_goals (try simp only [eq4, ne4, eq3, ne3, eq2, ne2, Prod.eta, List.length_cons, List.length_nil, List.length_append, Nat.zero_add] at *)
  all_goals (try simp (disch := omega) only [wrap64] at *)
  all_goals try first | exact leafDraw (by kernel_rfl) | exact Leaf.mk trivial | (refine Leaf.mk ?_; omega) | (refine Leaf.mk ?_; unfold maxLen; omega)
  all_goals try first
    | exact Leaf.mk trivial
    | (refine Leaf.mk ?_; omega)
    | (refine Leaf.mk ?_; unfold maxLen; omega)
  all_goals try
    have hat := fun b hb => flN_in (p := wrP lo hi) (l := l) (i := i) b hb
    have hao := fun b hb => flN_out (p := wrP lo hi) (l := l) (i := i) b hb
    generalize l.getD i msg0 = m at *
    first
    | (refine Leaf.mk ⟨i + 1, ?_, by omega, by omega⟩
       rw [hat (by omega) (by simp only [wrP, withinK, Bool.and_eq_true, Bool.or_eq_true, beq_iff_eq, Bool.not_eq_true']; exact ⟨‹_›, ‹_›, by first | exact .inl ‹_› | exact .inr ‹_›⟩)]; rfl)
    | (refine Leaf.mk ⟨i + 1, ?_, by omega, by omega⟩
       rw [hao (by omega) (by simp_all [wrP, withinK])]; rfl)
  have hil : i = l.length := by omega
  subst hil
  have hK : flN (wrP lo hi) l l.length = l.filter (wrP lo hi) := by rw [flN, take_all (Nat.le_refl _)]
  rw [hK] at *
  clear hK
  have hKl : keysL lo hi l = (l.filter (wrP lo hi)).map (·.2.1) := rfl
  have hfl : (l.filter (wrP lo hi)).length ≤ l.length := List.length_filter_le _ _
  generalize l.filter (wrP lo hi) = fs at *
  refine LoopVC.weak [(.slot 12, .frz), (.slot 7, .nil 9 .str)] (fun j : Nat => [(14, .i .i64 j)]) (fun j => [(0, .arr 9 .str (kyN fs j))]) (fun j => j ≤ fs.length) (fun j => fs.length - j) 0 (Ev.mk ?_)
  (conv => whnf)
  refine ⟨Leaf.mk ?_, Leaf.mk ?_, ?_⟩
  · rfl
  · omega
  intro j hj
  have hml := kyN_len fs j
  have hsl := sortStr_len (kyN fs j)
  repeat' (first | ((with_reducible refine Ev.mk ?_); conv => whnf) | (with_reducible refine And.intro ?_ ?_) | (intro h))
  all_goals (try simp only [decide_eq_true_eq, decide_eq_false_iff_not, beq_iff_eq, bne_iff_ne, beq_eq_false_iff_ne, bne_eq_false_iff_eq, Int.toNat_natCast, ge_iff_le, gt_iff_lt, Bool.not_eq_true', Bool.not_eq_false', Int.not_lt, Int.not_le, ne_eq] at *)
  all_goals (try dsimp only [Ty.den, Ty.dflt, MsgT] at *)
  all_goals (try simp only [eq4, ne4, eq3, ne3, eq2, ne2, Prod.eta, List.length_cons, List.length_nil, List.length_append, Nat.zero_add] at *)
  all_goals (try simp (disch := omega) only [wrap64] at *)
  all_goals try first | exact leafDraw (by kernel_rfl) | exact Leaf.mk trivial | (refine Leaf.mk ?_; omega) | (refine Leaf.mk ?_; unfold maxLen; omega)
  all_goals first
    | (refine Leaf.mk ?_; omega)
    | (refine Leaf.mk ?_; unfold maxLen; omega)
    | exact Leaf.mk (show (sortStr (kyN fs j)).length ≤ 1000000 by omega)
    | (refine Leaf.mk ⟨j + 1, ?_, by omega, by omega⟩
       first
       | (rw [kyN_at (by omega), wrap64 (by omega)]; rfl; done)
       | (rw [kyN_at (by omega)]; rfl))
    | (refine Leaf.mk (ret1 (show compL (sortStr (kyN fs j)) = keysF lo hi l from ?_))
       rw [keysF, sortU_fold, sortU, hKl, kyN, take_all (by omega)])
end Go.Proofs.Ytoedpnniaikfbaa
