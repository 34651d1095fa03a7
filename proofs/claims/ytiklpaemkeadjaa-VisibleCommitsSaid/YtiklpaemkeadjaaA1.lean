import Derived.Test.YtiklpaemkeadjaaTab
import Derived.Test.YtiklpaemkeadjaaEngS

set_option linter.unusedVariables false
set_option linter.unusedSimpArgs false
namespace Go.Proofs.Ytiklpaemkeadjaa
open Go.Eng
abbrev VerT : Ty := .pair (.int .i64) (.pair (.int .i64) (.pair .bool .str))
abbrev StT : Ty := .pair .str (.slice VerT)
abbrev Ver := Int × Int × Bool × List UInt8
abbrev Stk := List UInt8 × List Ver
def idxF {α : Type} (p : α → Bool) : List α → Nat → Int
  | [], _ => -1
  | x :: r, i => if p x then (i : Int) else idxF p r (i + 1)
/-- The last of the greatest times from 1 up to 'at': its place and its time. -/
def bestL (at' : Int) : List Ver → Nat → Int × Int
  | [], _ => (-1, 0)
  | v :: r, i => if 1 ≤ v.2.1 ∧ v.2.1 ≤ at' ∧ ((bestL at' r (i + 1)).1 < 0 ∨ (bestL at' r (i + 1)).2 < v.2.1) then ((i : Int), v.2.1) else bestL at' r (i + 1)
def pend (me : Int) (v : Ver) : Bool := decide (v.2.1 = 0 ∧ v.1 = me ∧ 0 ≤ me)
def which (s : Stk) (me at' : Int) : Int := if 0 ≤ idxF (pend me) s.2 0 then idxF (pend me) s.2 0 else (bestL at' s.2 0).1
/-- What the forward search ends with, that has 'best' (of time 'ts') and the rest before it. -/
def comb (me at' : Int) (best ts : Int) (r : List Ver) (i : Nat) : Int :=
  if 0 ≤ idxF (pend me) r i then idxF (pend me) r i else if (bestL at' r i).1 < 0 then best else if best < 0 ∨ ts ≤ (bestL at' r i).2 then (bestL at' r i).1 else best
theorem idxF_pos {α : Type} (p : α → Bool) : ∀ (l : List α) (i : Nat), idxF p l i = -1 ∨ (i ≤ idxF p l i ∧ idxF p l i < i + l.length)
  | [], i => .inl rfl
  | x :: r, i => by
    unfold idxF
    have := idxF_pos p r (i + 1)
    simp only [List.length_cons]
    split
    · right; omega
    · omega
theorem bestL_pos (at' : Int) : ∀ (l : List Ver) (i : Nat), ((bestL at' l i).1 = -1 ∧ (bestL at' l i).2 = 0) ∨ (i ≤ (bestL at' l i).1 ∧ (bestL at' l i).1 < i + l.length ∧ 1 ≤ (bestL at' l i).2)
  | [], i => .inl ⟨rfl, rfl⟩
  | x :: r, i => by
    unfold bestL
    have := bestL_pos at' r (i + 1)
    simp only [List.length_cons]
    split
    · right; simp only; omega
    · omega
theorem which_comb (s : Stk) (me at' : Int) : which s me at' = comb me at' (-1) 0 s.2 0 := by
  unfold which comb
  have := bestL_pos at' s.2 0
  split
  · rfl
  · split
    · omega
    · simp
theorem comb_hit {me at' best ts : Int} {v : Ver} {r : List Ver} {i : Nat} (h1 : v.2.1 = 0) (h2 : v.1 = me) (h3 : 0 ≤ me) : comb me at' best ts (v :: r) i = i := by
  have : pend me v = true := by simp only [pend, decide_eq_true_eq]; exact ⟨h1, h2, h3⟩
  simp only [comb, idxF, this, if_true]
  rw [if_pos (by omega)]
theorem comb_step {me at' best ts : Int} {v : Ver} {r : List Ver} {i : Nat} (h : ¬ (v.2.1 = 0 ∧ v.1 = me ∧ 0 ≤ me)) :
    comb me at' best ts (v :: r) i = if 1 ≤ v.2.1 ∧ v.2.1 ≤ at' ∧ (best < 0 ∨ ts ≤ v.2.1) then comb me at' i v.2.1 r (i + 1) else comb me at' best ts r (i + 1) := by
  have hp : pend me v = false := by
    simp only [pend, h, decide_false]
  have hq := bestL_pos at' r (i + 1)
  simp only [comb, idxF, bestL, hp, Bool.false_eq_true, if_false]
  repeat' split
  all_goals (try simp only [] at *)
  all_goals omega
theorem comb_nil {me at' best ts : Int} {i : Nat} : comb me at' best ts [] i = best := rfl
def sWhich : PSpec := ⟨[.d StT, .d (.int .i64), .d (.int .i64)], [⟨false, [.d (.int .i64)]⟩], fun _ => True, fun x => ((which x.1 x.2.1 x.2.2.1, ()), ())⟩
theorem fWhich : FnOk Try.prog 19 := ⟨_, Try.func19, by decide, rfl⟩
theorem pWhich : PSound Try.prog 19 sWhich := by
  refine psound (T := tab) (S := (spOf [])) (keep := k19) (by kernel_rfl) tabOk spNil (by kernel_rfl) Try.func19 (by kernel_rfl) (by decide) fun xs hg hp => ?_
  obtain ⟨⟨key, xs⟩, me, at', ⟨⟩⟩ := xs
  obtain ⟨⟨hk, hl, hx⟩, hm, ha, -⟩ := hg
  change List UInt8 at key
  change List Ver at xs
  change Int at me
  change Int at at'
  have hl := len63 hl
  show vfun tab _ k19 Try.f19 [.agg [.s key, .sl VerT xs], .i .i64 me, .i .i64 at'] [] _
  refine Ev.out ?_
  repeat' (first | ((with_reducible refine Ev.mk ?_); conv => whnf) | (with_reducible refine And.intro ?_ ?_) | (intro h))
  refine LoopVC.on (fun a : Nat × Int => [(7, .i .i64 a.2), (13, .i .i64 a.1)]) (fun _ => [])
    (fun a => a.1 ≤ xs.length ∧ which (key, xs) me at' = comb me at' a.2 (xs.getD a.2.toNat (0, 0, false, [])).2.1 (xs.drop a.1) a.1 ∧ (a.2 = -1 ∨ (0 ≤ a.2 ∧ a.2 < xs.length))) (fun a => xs.length - a.1) (0, -1) rfl ?_ ?_
  · refine ⟨by simp, ?_, .inl rfl⟩
    rw [which_comb]; simp only [List.drop_zero]
    unfold comb; simp
  · intro ⟨i, best⟩ ⟨hi, he, hb⟩
    simp only at hi he hb
    clear hp
    repeat' (first | ((with_reducible refine Ev.mk ?_); conv => whnf) | (with_reducible refine And.intro ?_ ?_) | (intro h))
    all_goals (try simp only [decide_eq_true_eq, decide_eq_false_iff_not, beq_iff_eq, bne_iff_ne, beq_eq_false_iff_ne, bne_eq_false_iff_eq, Int.toNat_natCast, ge_iff_le, gt_iff_lt, Bool.not_eq_true', Bool.not_eq_false', Int.not_lt, Int.not_le, ne_eq] at *)
    all_goals (try dsimp only [Ty.den, Ty.dflt, VerT] at *)
    all_goals (try simp only [eq4, ne4, eq3, ne3, eq2, ne2, Prod.eta, List.length_cons, List.length_nil, List.length_append, Nat.zero_add] at *)
    all_goals (try simp (disch := omega) only [wrap64] at *)
    all_goals try first | exact leafDraw (by kernel_rfl) | exact Leaf.mk trivial | (refine Leaf.mk ?_; omega) | (refine Leaf.mk ?_; unfold maxLen; omega)
    all_goals first
      | (rw [drop_end (by omega)] at he; exact Leaf.mk (ret1 he.symm))
      | (rw [drop_at (0, 0, false, []) (by omega : i < xs.length)] at he
         first
         | (rw [comb_hit (by assumption) (by assumption) (by assumption)] at he; exact Leaf.mk (ret1 he.symm))
         | (rw [comb_step (by omega)] at he
            first
            | (refine Leaf.mk ⟨(i + 1, best), rfl, ⟨by omega, ?_, by omega⟩, by omega⟩
               rw [he, if_neg (by omega)]
               done)
            | (refine Leaf.mk ⟨(i + 1, (i : Int)), rfl, ⟨by omega, ?_, by omega⟩, by omega⟩
               rw [he, if_pos (by omega), Int.toNat_natCast]
               done)))
end Go.Proofs.Ytiklpaemkeadjaa
