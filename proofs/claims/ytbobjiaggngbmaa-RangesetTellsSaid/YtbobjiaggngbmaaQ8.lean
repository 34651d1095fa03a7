import Derived.Test.YtbobjiaggngbmaaTab
import Derived.Test.YtbobjiaggngbmaaEng4
/- Texts, one behind the other. -/
set_option linter.unusedVariables false
set_option linter.unusedSimpArgs false
namespace Go.Proofs.Ytbobjiaggngbmaa
open Go.Eng
abbrev BT : Ty := .slice (.int .u8)
theorem pXIndexByte : XOk Try.prog 97 xIndexByte := xIndexByte_ok Try.func97 (by kernel_rfl) (by kernel_rfl) (by kernel_rfl) (by kernel_rfl)
def sBClone : PSpec := ⟨[.d BT], [⟨false, [.d BT]⟩], fun x => x.1.length ≤ 1000000, fun x => ((x.1, ()), ())⟩
theorem fBClone : FnOk Try.prog 73 := ⟨_, Try.func73, by decide, rfl⟩
theorem pBClone : PSound Try.prog 73 sBClone := by
  refine psound (T := tab) (S := (spOf [])) (keep := k73) (by kernel_rfl) tabOk spNil (by kernel_rfl) Try.func73 (by kernel_rfl) (by decide) fun xs hg hp => ?_
  obtain ⟨xs, ⟨⟩⟩ := xs
  obtain ⟨⟨hl, -⟩, -⟩ := hg
  change List Int at xs
  clear hl
  change xs.length ≤ 1000000 at hp
  show vfun tab _ k73 Try.f73 [.sl (.int .u8) xs] [] _
  refine Ev.out ?_
  repeat' (first | ((with_reducible refine Ev.mk ?_); conv => whnf) | (with_reducible refine And.intro ?_ ?_) | (intro h))
  all_goals (try simp only [decide_eq_true_eq, decide_eq_false_iff_not, beq_iff_eq, bne_iff_ne, beq_eq_false_iff_ne, bne_eq_false_iff_eq, Int.toNat_natCast, ge_iff_le, gt_iff_lt, Bool.not_eq_true', Bool.not_eq_false', Int.not_lt, Int.not_le, ne_eq] at *)
  all_goals (try dsimp only [Ty.den, Ty.dflt, BT] at *)
  all_goals (try simp only [eq4, ne4, eq3, ne3, eq2, ne2, Prod.eta, List.length_cons, List.length_nil, List.length_append, Nat.zero_add] at *)
  all_goals (try simp (disch := omega) only [wrap64] at *)
  all_goals try first | exact leafDraw (by kernel_rfl) | exact Leaf.mk trivial | (refine Leaf.mk ?_; omega) | (refine Leaf.mk ?_; unfold maxLen; omega)
  · refine Leaf.mk (ret1 (show ([] : List Int) = xs from ?_))
    exact (List.eq_nil_of_length_eq_zero h).symm
  · exact Leaf.mk (ret1 rfl)
def sIndexByte : PSpec := ⟨[.d BT, .d (.int .u8)], [⟨false, [.d (.int .i64)]⟩], fun _ => True, fun x => ((Lib.indexByte (strOfBytes x.1) x.2.1.toNat.toUInt8, ()), ())⟩
theorem fIndexByte : FnOk Try.prog 85 := ⟨_, Try.func85, by decide, rfl⟩
theorem pIndexByte : PSound Try.prog 85 sIndexByte := by
  refine psound (T := tab) (S := (spOf [(97, xIndexByte)])) (keep := k85) (by kernel_rfl) tabOk (spCons (.inr pXIndexByte) spNil) (by kernel_rfl) Try.func85 (by kernel_rfl) (by decide) fun xs hg hp => ?_
  obtain ⟨xs, c, ⟨⟩⟩ := xs
  show vfun tab _ k85 Try.f85 [.sl (.int .u8) xs, .i .u8 c] [] _
  refine Ev.out ?_
  repeat' (first | ((with_reducible refine Ev.mk ?_); conv => whnf) | (with_reducible refine And.intro ?_ ?_) | (intro h))
  exact Leaf.mk rfl
def escI (c : Int) : List Int := if c = 0 then [0, 255] else [c]
def putB (xs : List Int) : List Int := xs.flatMap escI ++ [0, 1]
def putText (s : List UInt8) : List Int := putB (bytesOfStr s)
theorem escI_len (xs : List Int) : (xs.flatMap escI).length ≤ 2 * xs.length := by
  induction xs with
  | nil => simp
  | cons x r ih =>
    simp only [List.flatMap_cons, List.length_append, List.length_cons]
    have : (escI x).length ≤ 2 := by unfold escI; split <;> simp
    omega
def sPutText : PSpec := ⟨[.d .str], [⟨false, [.o 5 (.int .u8)]⟩], fun x => x.1.length ≤ 100000, fun x => ((putText x.1, ()), ())⟩
theorem fPutText : FnOk Try.prog 47 := ⟨_, Try.func47, by decide, rfl⟩
theorem pPutText : PSound Try.prog 47 sPutText := by
  refine psound (T := tab) (S := (spOf [])) (keep := k47) (by kernel_rfl) tabOk spNil (by kernel_rfl) Try.func47 (by kernel_rfl) (by decide) fun xs hg hp => ?_
  obtain ⟨s, ⟨⟩⟩ := xs
  change List UInt8 at s
  change s.length ≤ 100000 at hp
  have hb : (bytesOfStr s).length = s.length := by simp [bytesOfStr]
  have hpt : putText s = putB (bytesOfStr s) := rfl
  show vfun tab _ k47 Try.f47 [.s s] [] _
  refine Ev.out ?_
  repeat' (first | ((with_reducible refine Ev.mk ?_); conv => whnf) | (with_reducible refine And.intro ?_ ?_) | (intro h))
  all_goals (try simp only [decide_eq_true_eq, decide_eq_false_iff_not, beq_iff_eq, bne_iff_ne, beq_eq_false_iff_ne, bne_eq_false_iff_eq, Int.toNat_natCast, ge_iff_le, gt_iff_lt, Bool.not_eq_true', Bool.not_eq_false', Int.not_lt, Int.not_le, ne_eq] at *)
  all_goals (try dsimp only [Ty.den, Ty.dflt, BT] at *)
  all_goals (try simp only [eq4, ne4, eq3, ne3, eq2, ne2, Prod.eta, List.length_cons, List.length_nil, List.length_append, Nat.zero_add] at *)
  all_goals (try simp (disch := omega) only [wrap64] at *)
  all_goals try first | exact leafDraw (by kernel_rfl) | exact Leaf.mk trivial | (refine Leaf.mk ?_; omega) | (refine Leaf.mk ?_; unfold maxLen; omega)
  refine LoopVC.weak [(.slot 3, .nil 5 (.int .u8))] (fun i : Nat => [(9, .i .i64 i)]) (fun i => [(0, .arr 5 (.int .u8) (((bytesOfStr s).take i).flatMap escI))]) (fun i => i ≤ (bytesOfStr s).length) (fun i => (bytesOfStr s).length - i) 0 (Ev.mk ?_)
  (conv => whnf)
  refine ⟨Leaf.mk rfl, Leaf.mk ?_, ?_⟩
  · omega
  intro i hi
  have hc := escI_len ((bytesOfStr s).take i)
  rw [List.length_take] at hc
  repeat' (first | ((with_reducible refine Ev.mk ?_); conv => whnf) | (with_reducible refine And.intro ?_ ?_) | (intro h))
  all_goals (try simp only [decide_eq_true_eq, decide_eq_false_iff_not, beq_iff_eq, bne_iff_ne, beq_eq_false_iff_ne, bne_eq_false_iff_eq, Int.toNat_natCast, ge_iff_le, gt_iff_lt, Bool.not_eq_true', Bool.not_eq_false', Int.not_lt, Int.not_le, ne_eq] at *)
  all_goals (try dsimp only [Ty.den, Ty.dflt, BT] at *)
  all_goals (try simp only [eq4, ne4, eq3, ne3, eq2, ne2, Prod.eta, List.length_cons, List.length_nil, List.length_append, Nat.zero_add] at *)
  all_goals (try simp (disch := omega) only [wrap64] at *)
  all_goals try first | exact leafDraw (by kernel_rfl) | exact Leaf.mk trivial | (refine Leaf.mk ?_; omega) | (refine Leaf.mk ?_; unfold maxLen; omega)
  all_goals first
    | (rw [take_all (by omega)]; exact Leaf.mk (ret1 rfl))
    | (refine Leaf.mk ⟨i + 1, ?_, by omega, by omega⟩
       rw [flatMap_at 0 (by omega)]
       first
       | (rw [show escI ((bytesOfStr s).getD i 0) = [0, 255] from if_pos (by assumption)]; have h7 : (bytesOfStr s).getD i 0 = 0 := by assumption
          rw [h7]; simp only [List.append_assoc, List.cons_append, List.nil_append]; rfl)
       | (rw [show escI ((bytesOfStr s).getD i 0) = [(bytesOfStr s).getD i 0] from if_neg (by assumption)]; rfl))
def sPutTextR : PSpec := sPutText
theorem fPutTextR : FnOk Try.prog 49 := ⟨_, Try.func49, by decide, rfl⟩
theorem pPutTextR : PSound Try.prog 49 sPutTextR := by
  refine psound (T := tab) (S := (spOf [])) (keep := k49) (by kernel_rfl) tabOk spNil (by kernel_rfl) Try.func49 (by kernel_rfl) (by decide) fun xs hg hp => ?_
  obtain ⟨s, ⟨⟩⟩ := xs
  change List UInt8 at s
  change s.length ≤ 100000 at hp
  have hb : (bytesOfStr s).length = s.length := by simp [bytesOfStr]
  show vfun tab _ k49 Try.f49 [.s s] [] _
  refine Ev.out ?_
  repeat' (first | ((with_reducible refine Ev.mk ?_); conv => whnf) | (with_reducible refine And.intro ?_ ?_) | (intro h))
  all_goals (try simp only [decide_eq_true_eq, decide_eq_false_iff_not, beq_iff_eq, bne_iff_ne, beq_eq_false_iff_ne, bne_eq_false_iff_eq, Int.toNat_natCast, ge_iff_le, gt_iff_lt, Bool.not_eq_true', Bool.not_eq_false', Int.not_lt, Int.not_le, ne_eq] at *)
  all_goals (try dsimp only [Ty.den, Ty.dflt, BT] at *)
  all_goals (try simp only [eq4, ne4, eq3, ne3, eq2, ne2, Prod.eta, List.length_cons, List.length_nil, List.length_append, Nat.zero_add] at *)
  all_goals (try simp (disch := omega) only [wrap64] at *)
  all_goals try first | exact leafDraw (by kernel_rfl) | exact Leaf.mk trivial | (refine Leaf.mk ?_; omega) | (refine Leaf.mk ?_; unfold maxLen; omega)
  refine LoopVC.weak [(.slot 3, .nil 5 (.int .u8))] (fun i : Nat => [(4, .i .i64 i)]) (fun i => [(0, .arr 5 (.int .u8) (((bytesOfStr s).take i).flatMap escI))]) (fun i => i ≤ s.length) (fun i => s.length - i) 0 (Ev.mk ?_)
  (conv => whnf)
  refine ⟨Leaf.mk rfl, Leaf.mk ?_, ?_⟩
  · omega
  intro i hi
  have hc := escI_len ((bytesOfStr s).take i)
  rw [List.length_take] at hc
  have hat : i < s.length → ((s.getD i 0).toNat : Int) = (bytesOfStr s).getD i 0 := fun h => by
    simp [bytesOfStr, List.getD, h]
  repeat' (first | ((with_reducible refine Ev.mk ?_); conv => whnf) | (with_reducible refine And.intro ?_ ?_) | (intro h))
  all_goals (try simp only [decide_eq_true_eq, decide_eq_false_iff_not, beq_iff_eq, bne_iff_ne, beq_eq_false_iff_ne, bne_eq_false_iff_eq, Int.toNat_natCast, ge_iff_le, gt_iff_lt, Bool.not_eq_true', Bool.not_eq_false', Int.not_lt, Int.not_le, ne_eq] at *)
  all_goals (try dsimp only [Ty.den, Ty.dflt, BT] at *)
  all_goals (try simp only [eq4, ne4, eq3, ne3, eq2, ne2, Prod.eta, List.length_cons, List.length_nil, List.length_append, Nat.zero_add] at *)
  all_goals (try simp (disch := omega) only [wrap64] at *)
  all_goals (try rw [hat (by omega)] at *)
  all_goals try first | exact leafDraw (by kernel_rfl) | exact Leaf.mk trivial | (refine Leaf.mk ?_; omega) | (refine Leaf.mk ?_; unfold maxLen; omega)
  all_goals first
    | (rw [take_all (by omega)]; exact Leaf.mk (ret1 rfl))
    | (refine Leaf.mk ⟨i + 1, ?_, by omega, by omega⟩
       rw [flatMap_at 0 (by omega)]
       first
       | (rw [show escI ((bytesOfStr s).getD i 0) = [0, 255] from if_pos (by assumption)]; have h7 : (bytesOfStr s).getD i 0 = 0 := by assumption
          rw [h7]; simp only [List.append_assoc, List.cons_append, List.nil_append]; rfl)
       | (rw [show escI ((bytesOfStr s).getD i 0) = [(bytesOfStr s).getD i 0] from if_neg (by assumption)]; rfl))
def numB (xs : List Int) : Int := xs.foldl (fun n c => (n * 256 + c) % 18446744073709551616) 0
theorem numB_bd (xs : List Int) : 0 ≤ numB xs ∧ numB xs ≤ 18446744073709551615 := by
  have : ∀ (l : List Int) (n : Int), 0 ≤ n ∧ n ≤ 18446744073709551615 → 0 ≤ l.foldl (fun n c => (n * 256 + c) % 18446744073709551616) n ∧ l.foldl (fun n c => (n * 256 + c) % 18446744073709551616) n ≤ 18446744073709551615 := by
    intro l
    induction l with
    | nil => intro n h; exact h
    | cons x r ih => intro n h; refine ih _ ?_; dsimp only; omega
  exact this xs 0 (by omega)
theorem numB_at {xs : List Int} {i : Nat} (h : i < xs.length) : numB (xs.take (i + 1)) = (numB (xs.take i) * 256 + xs.getD i 0) % 18446744073709551616 := by
  unfold numB; rw [foldl_at 0 h]
theorem byte_at {xs : List Int} (hx : ∀ x ∈ xs, Eng.Good (.int .u8) x) {i : Nat} (h : i < xs.length) : 0 ≤ xs.getD i 0 ∧ xs.getD i 0 ≤ 255 := bdu8 (good_at (e := .int .u8) hx h 0)
def sNumber : PSpec := ⟨[.d BT], [⟨false, [.d (.int .u64)]⟩], fun _ => True, fun x => ((numB x.1, ()), ())⟩
theorem fNumber : FnOk Try.prog 84 := ⟨_, Try.func84, by decide, rfl⟩
theorem pNumber : PSound Try.prog 84 sNumber := by
  refine psound (T := tab) (S := (spOf [])) (keep := k84) (by kernel_rfl) tabOk spNil (by kernel_rfl) Try.func84 (by kernel_rfl) (by decide) fun xs hg hp => ?_
  obtain ⟨xs, ⟨⟩⟩ := xs
  obtain ⟨⟨hl, hx⟩, -⟩ := hg
  change List Int at xs
  have hl := len63 hl
  change xs.length ≤ _ at hl
  change ∀ x ∈ xs, Eng.Good (.int .u8) x at hx
  clear hp
  show vfun tab _ k84 Try.f84 [.sl (.int .u8) xs] [] _
  refine Ev.out ?_
  repeat' (first | ((with_reducible refine Ev.mk ?_); conv => whnf) | (with_reducible refine And.intro ?_ ?_) | (intro h))
  refine LoopVC.on (fun i : Nat => [(3, .i .u64 (numB (xs.take i))), (8, .i .i64 i)]) (fun _ => []) (fun i => i ≤ xs.length) (fun i => xs.length - i) 0 rfl (by omega) ?_
  intro i hi
  repeat' (first | ((with_reducible refine Ev.mk ?_); conv => whnf) | (with_reducible refine And.intro ?_ ?_) | (intro h))
  all_goals (try simp only [decide_eq_true_eq, decide_eq_false_iff_not, beq_iff_eq, bne_iff_ne, beq_eq_false_iff_ne, bne_eq_false_iff_eq, Int.toNat_natCast, ge_iff_le, gt_iff_lt, Bool.not_eq_true', Bool.not_eq_false', Int.not_lt, Int.not_le, ne_eq] at *)
  all_goals (try dsimp only [Ty.den, Ty.dflt, BT] at *)
  all_goals (try simp only [eq4, ne4, eq3, ne3, eq2, ne2, Prod.eta, List.length_cons, List.length_nil, List.length_append, Nat.zero_add] at *)
  all_goals (try simp (disch := omega) only [wrap64] at *)
  all_goals try first | exact leafDraw (by kernel_rfl) | exact Leaf.mk trivial | (refine Leaf.mk ?_; omega) | (refine Leaf.mk ?_; unfold maxLen; omega)
  · refine Leaf.mk ⟨i + 1, ?_, by omega, by omega⟩
    have hb := byte_at hx (i := i) (by omega)
    rw [numB_at (by omega), ← or_byte hb]; rfl
  · rw [take_all (by omega)]; exact Leaf.mk (ret1 rfl)
def sLow : PSpec := sNumber
theorem fLow : FnOk Try.prog 86 := ⟨_, Try.func86, by decide, rfl⟩
theorem pLow : PSound Try.prog 86 sLow := by
  refine psound (T := tab) (S := (spOf [])) (keep := k86) (by kernel_rfl) tabOk spNil (by kernel_rfl) Try.func86 (by kernel_rfl) (by decide) fun xs hg hp => ?_
  obtain ⟨xs, ⟨⟩⟩ := xs
  obtain ⟨⟨hl, hx⟩, -⟩ := hg
  change List Int at xs
  have hl := len63 hl
  change xs.length ≤ _ at hl
  change ∀ x ∈ xs, Eng.Good (.int .u8) x at hx
  clear hp
  show vfun tab _ k86 Try.f86 [.sl (.int .u8) xs] [] _
  refine Ev.out ?_
  repeat' (first | ((with_reducible refine Ev.mk ?_); conv => whnf) | (with_reducible refine And.intro ?_ ?_) | (intro h))
  refine LoopVC.on (fun i : Nat => [(3, .i .u64 (numB (xs.take i))), (4, .i .i64 i)]) (fun _ => []) (fun i => i ≤ xs.length) (fun i => xs.length - i) 0 rfl (by omega) ?_
  intro i hi
  repeat' (first | ((with_reducible refine Ev.mk ?_); conv => whnf) | (with_reducible refine And.intro ?_ ?_) | (intro h))
  all_goals (try simp only [decide_eq_true_eq, decide_eq_false_iff_not, beq_iff_eq, bne_iff_ne, beq_eq_false_iff_ne, bne_eq_false_iff_eq, Int.toNat_natCast, ge_iff_le, gt_iff_lt, Bool.not_eq_true', Bool.not_eq_false', Int.not_lt, Int.not_le, ne_eq] at *)
  all_goals (try dsimp only [Ty.den, Ty.dflt, BT] at *)
  all_goals (try simp only [eq4, ne4, eq3, ne3, eq2, ne2, Prod.eta, List.length_cons, List.length_nil, List.length_append, Nat.zero_add] at *)
  all_goals (try simp (disch := omega) only [wrap64] at *)
  all_goals try first | exact leafDraw (by kernel_rfl) | exact Leaf.mk trivial | (refine Leaf.mk ?_; omega) | (refine Leaf.mk ?_; unfold maxLen; omega)
  · refine Leaf.mk ⟨i + 1, ?_, by omega, by omega⟩
    have hb := byte_at hx (i := i) (by omega)
    rw [numB_at (by omega)]
    simp only [wrapU64]
    rw [show (256 * numB (xs.take i) % 18446744073709551616 + xs.getD i 0 % 18446744073709551616) % 18446744073709551616 = (numB (xs.take i) * 256 + xs.getD i 0) % 18446744073709551616 by omega]
    rfl
  · rw [take_all (by omega)]; exact Leaf.mk (ret1 rfl)
def layB : Int → Nat → List Int
  | _, 0 => []
  | n, k + 1 => layB (n / 256) k ++ [n % 256]
theorem layB_len : ∀ (k : Nat) (n : Int), (layB n k).length = k
  | 0, n => rfl
  | k + 1, n => by simp [layB, layB_len k]
theorem layB_top : ∀ (k : Nat) (n : Int), layB n (k + 1) = (n / 256 ^ k % 256) :: layB n k
  | 0, n => by simp [layB]
  | k + 1, n => by
    rw [layB, layB_top k (n / 256), layB]
    simp only [List.cons_append]
    rw [Int.ediv_ediv_of_nonneg (by decide), Int.pow_succ, Int.mul_comm]
def sLay : PSpec := ⟨[.d (.int .u64), .d (.int .i64)], [⟨false, [.d BT]⟩], fun x => 0 ≤ x.2.1 ∧ x.2.1 ≤ 8, fun x => ((layB x.1 x.2.1.toNat, ()), ())⟩
theorem fLay : FnOk Try.prog 70 := ⟨_, Try.func70, by decide, rfl⟩
theorem pLay : PSound Try.prog 70 sLay := by
  refine psound (T := tab) (S := (spOf [])) (keep := k70) (by kernel_rfl) tabOk spNil (by kernel_rfl) Try.func70 (by kernel_rfl) (by decide) fun xs hg hp => ?_
  obtain ⟨n, k, ⟨⟩⟩ := xs
  obtain ⟨hn, -⟩ := hg
  change Int at n
  change Int at k
  have hn := bdu64 hn
  change 0 ≤ n ∧ n ≤ _ at hn
  change 0 ≤ k ∧ k ≤ 8 at hp
  show vfun tab _ k70 Try.f70 [.i .u64 n, .i .i64 k] [] _
  refine Ev.out ?_
  repeat' (first | ((with_reducible refine Ev.mk ?_); conv => whnf) | (with_reducible refine And.intro ?_ ?_) | (intro h))
  all_goals (try simp only [decide_eq_true_eq, decide_eq_false_iff_not, beq_iff_eq, bne_iff_ne, beq_eq_false_iff_ne, bne_eq_false_iff_eq, Int.toNat_natCast, ge_iff_le, gt_iff_lt, Bool.not_eq_true', Bool.not_eq_false', Int.not_lt, Int.not_le, ne_eq] at *)
  all_goals (try dsimp only [Ty.den, Ty.dflt, BT] at *)
  all_goals (try simp only [eq4, ne4, eq3, ne3, eq2, ne2, Prod.eta, List.length_cons, List.length_nil, List.length_append, Nat.zero_add] at *)
  all_goals (try simp (disch := omega) only [wrap64] at *)
  all_goals try first | exact leafDraw (by kernel_rfl) | exact Leaf.mk trivial | (refine Leaf.mk ?_; omega) | (refine Leaf.mk ?_; unfold maxLen; omega)
  refine LoopVC.on (fun i : Nat => [(10, .i .i64 i)]) (fun i => [(0, .arr 5 (.int .u8) (List.replicate (k.toNat - i) 0 ++ layB n i))]) (fun i => (i : Int) ≤ k) (fun i => k.toNat - i) 0 ?_ (by simp; omega) ?_
  · simp only [layB, List.append_nil, Nat.sub_zero]; rfl
  intro i hi
  repeat' (first | ((with_reducible refine Ev.mk ?_); conv => whnf) | (with_reducible refine And.intro ?_ ?_) | (intro h))
  all_goals (try simp only [decide_eq_true_eq, decide_eq_false_iff_not, beq_iff_eq, bne_iff_ne, beq_eq_false_iff_ne, bne_eq_false_iff_eq, Int.toNat_natCast, ge_iff_le, gt_iff_lt, Bool.not_eq_true', Bool.not_eq_false', Int.not_lt, Int.not_le, ne_eq] at *)
  all_goals (try dsimp only [Ty.den, Ty.dflt, BT] at *)
  all_goals (try simp only [eq4, ne4, eq3, ne3, eq2, ne2, Prod.eta, List.length_cons, List.length_nil, List.length_append, Nat.zero_add] at *)
  all_goals (try simp (disch := omega) only [wrap64] at *)
  all_goals try first | exact leafDraw (by kernel_rfl) | exact Leaf.mk trivial | (refine Leaf.mk ?_; omega) | (refine Leaf.mk ?_; unfold maxLen; omega)
  all_goals (try simp only [List.length_replicate, layB_len])
  all_goals try (refine Leaf.mk ?_; omega)
  · refine Leaf.mk ?_
    rw [shr8 n (by omega)]
    have := div256_bd hn i
    simp only [inK, Bool.and_eq_true, decide_eq_true_eq]; exact this
  · refine Leaf.mk ⟨i + 1, ?_, by omega, by omega⟩
    rw [shr8 n (by omega), wrapU8, layB_top]
    obtain ⟨m, hm⟩ : ∃ m, k.toNat - i = m + 1 := ⟨k.toNat - i - 1, by omega⟩
    rw [hm, show k.toNat - (i + 1) = m by omega, show (k - 1 - (i : Int)).toNat = m by omega]
    rw [show List.replicate (m + 1) (0 : Int) = List.replicate m 0 ++ [0] from List.replicate_succ', List.append_assoc, List.set_append_right _ _ (by simp)]
    simp only [List.length_replicate, Nat.sub_self, List.cons_append, List.nil_append, List.set_cons_zero]
    rfl
  · refine Leaf.mk (ret1 (show _ = layB n k.toNat from ?_))
    rw [show k.toNat - i = 0 by omega, show i = k.toNat by omega]; simp
def sHigh : PSpec := sLay
theorem fHigh : FnOk Try.prog 72 := ⟨_, Try.func72, by decide, rfl⟩
theorem pHigh : PSound Try.prog 72 sHigh := by
  refine psound (T := tab) (S := (spOf [])) (keep := k72) (by kernel_rfl) tabOk spNil (by kernel_rfl) Try.func72 (by kernel_rfl) (by decide) fun xs hg hp => ?_
  obtain ⟨n, k, ⟨⟩⟩ := xs
  obtain ⟨hn, -⟩ := hg
  change Int at n
  change Int at k
  have hn := bdu64 hn
  change 0 ≤ n ∧ n ≤ _ at hn
  change 0 ≤ k ∧ k ≤ 8 at hp
  show vfun tab _ k72 Try.f72 [.i .u64 n, .i .i64 k] [] _
  refine Ev.out ?_
  repeat' (first | ((with_reducible refine Ev.mk ?_); conv => whnf) | (with_reducible refine And.intro ?_ ?_) | (intro h))
  all_goals (try simp only [decide_eq_true_eq, decide_eq_false_iff_not, beq_iff_eq, bne_iff_ne, beq_eq_false_iff_ne, bne_eq_false_iff_eq, Int.toNat_natCast, ge_iff_le, gt_iff_lt, Bool.not_eq_true', Bool.not_eq_false', Int.not_lt, Int.not_le, ne_eq] at *)
  all_goals (try dsimp only [Ty.den, Ty.dflt, BT] at *)
  all_goals (try simp only [eq4, ne4, eq3, ne3, eq2, ne2, Prod.eta, List.length_cons, List.length_nil, List.length_append, Nat.zero_add] at *)
  all_goals (try simp (disch := omega) only [wrap64] at *)
  all_goals try first | exact leafDraw (by kernel_rfl) | exact Leaf.mk trivial | (refine Leaf.mk ?_; omega) | (refine Leaf.mk ?_; unfold maxLen; omega)
  refine LoopVC.weak [(.slot 5, .nil 5 (.int .u8))] (fun i : Nat => [(6, .i .i64 i), (0, .i .u64 (n / 256 ^ i))]) (fun i => [(0, .arr 5 (.int .u8) (layB n i))]) (fun i => (i : Int) ≤ k) (fun i => k.toNat - i) 0 (Ev.mk ?_)
  (conv => whnf)
  refine ⟨Leaf.mk ?_, Leaf.mk ?_, ?_⟩
  · rw [Int.pow_zero, Int.ediv_one]; rfl
  · simp; omega
  intro i hi
  have hd := div256_bd hn i
  repeat' (first | ((with_reducible refine Ev.mk ?_); conv => whnf) | (with_reducible refine And.intro ?_ ?_) | (intro h))
  all_goals (try simp only [decide_eq_true_eq, decide_eq_false_iff_not, beq_iff_eq, bne_iff_ne, beq_eq_false_iff_ne, bne_eq_false_iff_eq, Int.toNat_natCast, ge_iff_le, gt_iff_lt, Bool.not_eq_true', Bool.not_eq_false', Int.not_lt, Int.not_le, ne_eq] at *)
  all_goals (try dsimp only [Ty.den, Ty.dflt, BT] at *)
  all_goals (try simp only [eq4, ne4, eq3, ne3, eq2, ne2, Prod.eta, List.length_cons, List.length_nil, List.length_append, Nat.zero_add] at *)
  all_goals (try simp (disch := omega) only [wrap64] at *)
  all_goals (try simp only [layB_len, tmodP hd.1, tdivP hd.1] at *)
  all_goals try first | exact leafDraw (by kernel_rfl) | exact Leaf.mk trivial | (refine Leaf.mk ?_; omega) | (refine Leaf.mk ?_; unfold maxLen; omega)
  · refine Leaf.mk ?_
    simp only [inK, Bool.and_eq_true, decide_eq_true_eq]; omega
  · refine Leaf.mk ⟨i + 1, ?_, by omega, by omega⟩
    rw [layB_top, wrapU64, wrapU8, Int.emod_emod_of_dvd _ (by decide : (256 : Int) ∣ 256)]
    rw [show n / 256 ^ i / 256 % 18446744073709551616 = n / 256 ^ (i + 1) by rw [Int.pow_succ, ← Int.ediv_ediv_of_nonneg (Int.le_of_lt (Int.pow_pos (by decide)))]; omega]
    rfl
  · refine Leaf.mk (ret1 (show _ = layB n k.toNat from ?_))
    rw [show i = k.toNat by omega]
def widthN : Nat → Int → Nat
  | 0, _ => 0
  | f + 1, n => if 0 < n then widthN f (n / 256) + 1 else 0
theorem widthN_le : ∀ (f : Nat) (n : Int), widthN f n ≤ f
  | 0, _ => Nat.le_refl _
  | f + 1, n => by unfold widthN; split; have := widthN_le f (n / 256); omega; omega
def sWidth : PSpec := ⟨[.d (.int .u64)], [⟨false, [.d (.int .i64)]⟩], fun _ => True, fun x => (((widthN 8 x.1 : Nat), ()), ())⟩
theorem fWidth : FnOk Try.prog 69 := ⟨_, Try.func69, by decide, rfl⟩
theorem pWidth : PSound Try.prog 69 sWidth := by
  refine psound (T := tab) (S := (spOf [])) (keep := k69) (by kernel_rfl) tabOk spNil (by kernel_rfl) Try.func69 (by kernel_rfl) (by decide) fun xs hg hp => ?_
  obtain ⟨n, ⟨⟩⟩ := xs
  obtain ⟨hn, -⟩ := hg
  change Int at n
  have hn := bdu64 hn
  change 0 ≤ n ∧ n ≤ _ at hn
  clear hp
  show vfun tab _ k69 Try.f69 [.i .u64 n] [] _
  refine Ev.out ?_
  repeat' (first | ((with_reducible refine Ev.mk ?_); conv => whnf) | (with_reducible refine And.intro ?_ ?_) | (intro h))
  refine LoopVC.on (fun a : Nat × Int => [(0, .i .u64 a.2), (3, .i .i64 a.1)]) (fun _ => []) (fun a => a.1 ≤ 8 ∧ (0 ≤ a.2 ∧ a.2 ≤ 18446744073709551615) ∧ a.2 < 256 ^ (8 - a.1) ∧ widthN 8 n = a.1 + widthN (8 - a.1) a.2) (fun a => 8 - a.1) (0, n) rfl ?_ ?_
  · refine ⟨by omega, hn, ?_, by simp⟩
    show n < 256 ^ 8
    omega
  intro ⟨k, m⟩ ⟨h1, h2, h3, h4⟩
  dsimp only at h1 h2 h3 h4
  repeat' (first | ((with_reducible refine Ev.mk ?_); conv => whnf) | (with_reducible refine And.intro ?_ ?_) | (intro h))
  all_goals (try simp only [decide_eq_true_eq, decide_eq_false_iff_not, beq_iff_eq, bne_iff_ne, beq_eq_false_iff_ne, bne_eq_false_iff_eq, Int.toNat_natCast, ge_iff_le, gt_iff_lt, Bool.not_eq_true', Bool.not_eq_false', Int.not_lt, Int.not_le, ne_eq] at *)
  all_goals (try dsimp only [Ty.den, Ty.dflt, BT] at *)
  all_goals (try simp only [eq4, ne4, eq3, ne3, eq2, ne2, Prod.eta, List.length_cons, List.length_nil, List.length_append, Nat.zero_add] at *)
  all_goals (try simp (disch := omega) only [wrap64] at *)
  all_goals try first | exact leafDraw (by kernel_rfl) | exact Leaf.mk trivial | (refine Leaf.mk ?_; omega) | (refine Leaf.mk ?_; unfold maxLen; omega)
  all_goals (try rw [shrB])
  · refine Leaf.mk ?_
    simp only [inK, Bool.and_eq_true, decide_eq_true_eq]; omega
  · obtain ⟨j, hj⟩ : ∃ j, 8 - k = j + 1 := by
      refine ⟨8 - k - 1, ?_⟩
      rcases Nat.lt_or_ge k 8 with h8 | h8
      · omega
      · rw [show 8 - k = 0 by omega] at h3
        simp only [Int.pow_zero] at h3
        omega
    rw [hj] at h3 h4
    refine Leaf.mk ⟨(k + 1, m / 256), rfl, ⟨by omega, by dsimp only; omega, ?_, ?_⟩, by dsimp only; omega⟩
    · dsimp only
      rw [show 8 - (k + 1) = j by omega]
      rw [Int.pow_succ] at h3
      exact Int.ediv_lt_of_lt_mul (by decide) h3
    · dsimp only
      rw [h4, widthN, if_pos h, show 8 - (k + 1) = j by omega]; omega
  · refine Leaf.mk (ret1 (show (k : Int) = (widthN 8 n : Nat) from ?_))
    have : m = 0 := by omega
    subst this
    have h0 : ∀ f, widthN f 0 = 0 := fun f => by cases f <;> simp [widthN]
    rw [h4, h0]; rfl
end Go.Proofs.Ytbobjiaggngbmaa

set_option linter.unusedVariables false
set_option linter.unusedSimpArgs false
namespace Go.Proofs.Ytbobjiaggngbmaa
open Go.Eng
theorem tdiv256 {n : Int} (h : 0 ≤ n ∧ n ≤ 18446744073709551615) : n.tdiv 256 = n / 256 := Int.tdiv_eq_ediv_of_nonneg h.1
theorem byte0 {xs : List Int} (hx : ∀ x ∈ xs, Eng.Good (.int .u8) x) (i : Nat) : 0 ≤ xs.getD i 0 ∧ xs.getD i 0 ≤ 255 := by
  rcases Nat.lt_or_ge i xs.length with h | h
  · exact bdu8 (good_at (e := .int .u8) hx h 0)
  · rw [List.getD_eq_getElem?_getD, List.getElem?_eq_none h]; decide
def putSmall (n : Int) : List Int := ((widthN 8 n : Nat) : Int) :: layB n (widthN 8 n)
def sPutSmall : PSpec := ⟨[.d (.int .u64)], [⟨false, [.o 5 (.int .u8)]⟩], fun _ => True, fun x => ((putSmall x.1, ()), ())⟩
theorem fPutSmall : FnOk Try.prog 45 := ⟨_, Try.func45, by decide, rfl⟩
theorem pPutSmall : PSound Try.prog 45 sPutSmall := by
  refine psound (T := tab) (S := (spOf [(69, sWidth.spec (lsOf [])), (70, sLay.spec (lsOf []))])) (keep := k45) (by kernel_rfl) tabOk (spCons (pOk pWidth fWidth (by decide) lsNil) (spCons (pOk pLay fLay (by decide) lsNil) spNil)) (by kernel_rfl) Try.func45 (by kernel_rfl) (by decide) fun xs hg hp => ?_
  obtain ⟨n, ⟨⟩⟩ := xs
  obtain ⟨hn, -⟩ := hg
  change Int at n
  have hn := bdu64 hn
  change 0 ≤ n ∧ n ≤ _ at hn
  have hw := widthN_le 8 n
  clear hp
  show vfun tab _ k45 Try.f45 [.i .u64 n] [] _
  refine Ev.out ?_
  repeat' (first | ((with_reducible refine Ev.mk ?_); conv => whnf) | (with_reducible refine And.intro ?_ ?_) | (intro h))
  all_goals (try simp only [decide_eq_true_eq, decide_eq_false_iff_not, beq_iff_eq, bne_iff_ne, beq_eq_false_iff_ne, bne_eq_false_iff_eq, Int.toNat_natCast, ge_iff_le, gt_iff_lt, Bool.not_eq_true', Bool.not_eq_false', Int.not_lt, Int.not_le, ne_eq] at *)
  all_goals (try dsimp only [Ty.den, Ty.dflt, BT, sWidth, sLay] at *)
  all_goals (try simp only [eq4, ne4, eq3, ne3, eq2, ne2, Prod.eta, List.length_cons, List.length_nil, List.length_append, Nat.zero_add] at *)
  all_goals (try simp (disch := omega) only [wrap64] at *)
  all_goals (try simp only [layB_len, Int.toNat_natCast] at *)
  all_goals try first | exact leafDraw (by kernel_rfl) | exact Leaf.mk trivial | (refine Leaf.mk ?_; omega) | (refine Leaf.mk ?_; unfold maxLen; omega)
  · exact Leaf.mk (show (0 : Int) ≤ ((widthN 8 n : Nat) : Int) ∧ ((widthN 8 n : Nat) : Int) ≤ 8 by omega)
  · refine Leaf.mk (ret1 (show [IntKind.u8.wrap ((widthN 8 n : Nat) : Int)] ++ layB n (((widthN 8 n : Nat) : Int)).toNat = putSmall n from ?_))
    rw [wrapU8, putSmall, Int.toNat_natCast]
    rw [show ((widthN 8 n : Nat) : Int) % 256 = ((widthN 8 n : Nat) : Int) by omega]; rfl
def sPutSmallR : PSpec := sPutSmall
theorem fPutSmallR : FnOk Try.prog 48 := ⟨_, Try.func48, by decide, rfl⟩
theorem pPutSmallR : PSound Try.prog 48 sPutSmallR := by
  refine psound (T := tab) (S := (spOf [(72, sHigh.spec (lsOf []))])) (keep := k48) (by kernel_rfl) tabOk (spCons (pOk pHigh fHigh (by decide) lsNil) spNil) (by kernel_rfl) Try.func48 (by kernel_rfl) (by decide) fun xs hg hp => ?_
  obtain ⟨n, ⟨⟩⟩ := xs
  obtain ⟨hn, -⟩ := hg
  change Int at n
  have hn := bdu64 hn
  change 0 ≤ n ∧ n ≤ _ at hn
  have hw := widthN_le 8 n
  clear hp
  show vfun tab _ k48 Try.f48 [.i .u64 n] [] _
  refine Ev.out ?_
  repeat' (first | ((with_reducible refine Ev.mk ?_); conv => whnf) | (with_reducible refine And.intro ?_ ?_) | (intro h))
  refine LoopVC.on (fun a : Nat × Int => [(3, .i .i64 a.1), (4, .i .u64 a.2)]) (fun _ => []) (fun a => a.1 ≤ 8 ∧ (0 ≤ a.2 ∧ a.2 ≤ 18446744073709551615) ∧ a.2 < 256 ^ (8 - a.1) ∧ widthN 8 n = a.1 + widthN (8 - a.1) a.2) (fun a => 8 - a.1) (0, n) rfl ?_ ?_
  · refine ⟨by omega, hn, ?_, by simp⟩
    show n < 256 ^ 8
    omega
  intro ⟨k, m⟩ ⟨h1, h2, h3, h4⟩
  dsimp only at h1 h2 h3 h4
  repeat' (first | ((with_reducible refine Ev.mk ?_); conv => whnf) | (with_reducible refine And.intro ?_ ?_) | (intro h))
  all_goals (try simp only [decide_eq_true_eq, decide_eq_false_iff_not, beq_iff_eq, bne_iff_ne, beq_eq_false_iff_ne, bne_eq_false_iff_eq, Int.toNat_natCast, ge_iff_le, gt_iff_lt, Bool.not_eq_true', Bool.not_eq_false', Int.not_lt, Int.not_le, ne_eq] at *)
  all_goals (try dsimp only [Ty.den, Ty.dflt, BT, sHigh, sLay] at *)
  all_goals (try simp only [eq4, ne4, eq3, ne3, eq2, ne2, Prod.eta, List.length_cons, List.length_nil, List.length_append, Nat.zero_add] at *)
  all_goals (try simp (disch := omega) only [wrap64] at *)
  all_goals (try simp only [layB_len, tdiv256 h2] at *)
  all_goals try first | exact leafDraw (by kernel_rfl) | exact Leaf.mk trivial | (refine Leaf.mk ?_; omega) | (refine Leaf.mk ?_; unfold maxLen; omega)
  all_goals first
    | exact Leaf.mk (show (0 : Int) ≤ ((k : Nat) : Int) ∧ ((k : Nat) : Int) ≤ 8 by omega)
    | (refine Leaf.mk (show inK _ _ = true from ?_); simp only [inK, Bool.and_eq_true, decide_eq_true_eq]; omega)
    | skip
  · obtain ⟨j, hj⟩ : ∃ j, 8 - k = j + 1 := by
      refine ⟨8 - k - 1, ?_⟩
      rcases Nat.lt_or_ge k 8 with h8 | h8
      · omega
      · rw [show 8 - k = 0 by omega] at h3
        simp only [Int.pow_zero] at h3
        omega
    rw [hj] at h3 h4
    rw [show IntKind.u64.wrap (m / 256) = m / 256 by rw [wrapU64]; omega]
    refine Leaf.mk ⟨(k + 1, m / 256), rfl, ⟨by omega, by dsimp only; omega, ?_, ?_⟩, by dsimp only; omega⟩
    · dsimp only
      rw [show 8 - (k + 1) = j by omega]
      rw [Int.pow_succ] at h3
      exact Int.ediv_lt_of_lt_mul (by decide) h3
    · dsimp only
      rw [h4, widthN, if_pos h, show 8 - (k + 1) = j by omega]; omega
  · have : m = 0 := by omega
    subst this
    have h0 : ∀ f, widthN f 0 = 0 := fun f => by cases f <;> simp [widthN]
    refine Leaf.mk (ret1 (show [IntKind.u8.wrap ((k : Nat) : Int)] ++ layB n (((k : Nat) : Int)).toNat = putSmall n from ?_))
    rw [wrapU8, putSmall, Int.toNat_natCast, h4, h0]
    rw [show ((k : Nat) : Int) % 256 = ((k : Nat) : Int) by omega]; rfl
def getSmall (b : List Int) : Int × Int × Int :=
  if b.length = 0 then (0, 0, 3) else if 8 < b.getD 0 0 then (0, 0, 4) else if (b.length : Int) ≤ b.getD 0 0 then (0, 0, 3) else if 0 < b.getD 0 0 ∧ b.getD 1 0 = 0 then (0, 0, 4)
  else (numB ((b.take (b.getD 0 0 + 1).toNat).drop 1), b.getD 0 0 + 1, 0)
def sGetSmall : PSpec := ⟨[.d BT], [⟨false, [.d (.int .u64)]⟩, ⟨false, [.d (.int .i64)]⟩, ⟨false, [.d (.int .i64)]⟩], fun _ => True, fun x => (((getSmall x.1).1, ()), ((getSmall x.1).2.1, ()), ((getSmall x.1).2.2, ()), ())⟩
theorem fGetSmall : FnOk Try.prog 75 := ⟨_, Try.func75, by decide, rfl⟩
theorem pGetSmall : PSound Try.prog 75 sGetSmall := by
  refine psound (T := tab) (S := (spOf [(84, sNumber.spec (lsOf []))])) (keep := k75) (by kernel_rfl) tabOk (spCons (pOk pNumber fNumber (by decide) lsNil) spNil) (by kernel_rfl) Try.func75 (by kernel_rfl) (by decide) fun xs hg hp => ?_
  obtain ⟨xs, ⟨⟩⟩ := xs
  obtain ⟨⟨hl, hx⟩, -⟩ := hg
  change List Int at xs
  have hl := len63 hl
  change xs.length ≤ _ at hl
  change ∀ x ∈ xs, Eng.Good (.int .u8) x at hx
  clear hp
  have hb0 := byte0 hx 0
  show vfun tab _ k75 Try.f75 [.sl (.int .u8) xs] [] _
  refine Ev.out ?_
  repeat' (first | ((with_reducible refine Ev.mk ?_); conv => whnf) | (with_reducible refine And.intro ?_ ?_) | (intro h))
  all_goals (try simp only [decide_eq_true_eq, decide_eq_false_iff_not, beq_iff_eq, bne_iff_ne, beq_eq_false_iff_ne, bne_eq_false_iff_eq, Int.toNat_natCast, ge_iff_le, gt_iff_lt, Bool.not_eq_true', Bool.not_eq_false', Int.not_lt, Int.not_le, ne_eq] at *)
  all_goals (try dsimp only [Ty.den, Ty.dflt, BT, sNumber] at *)
  all_goals (try simp only [eq4, ne4, eq3, ne3, eq2, ne2, Prod.eta, List.length_cons, List.length_nil, List.length_append, Nat.zero_add] at *)
  all_goals (try simp (disch := omega) only [wrap64] at *)
  all_goals (try simp only [Int.reduceToNat] at *)
  all_goals (try simp (disch := omega) only [wrap64] at *)
  all_goals try first | exact leafDraw (by kernel_rfl) | exact Leaf.mk trivial | (refine Leaf.mk ?_; omega) | (refine Leaf.mk ?_; unfold maxLen; omega)
  all_goals clear hx
  all_goals (try (refine Leaf.mk ?_; omega))
  all_goals (refine Leaf.mk (ret3 ?_ ?_ ?_) <;> (dsimp only; rw [getSmall]; repeat (first | rw [if_pos (by omega)] | rw [if_neg (by omega)])))
  all_goals (dsimp only; rw [Int.add_comm])
def sGetSmallR : PSpec := sGetSmall
theorem fGetSmallR : FnOk Try.prog 77 := ⟨_, Try.func77, by decide, rfl⟩
theorem pGetSmallR : PSound Try.prog 77 sGetSmallR := by
  refine psound (T := tab) (S := (spOf [(86, sLow.spec (lsOf []))])) (keep := k77) (by kernel_rfl) tabOk (spCons (pOk pLow fLow (by decide) lsNil) spNil) (by kernel_rfl) Try.func77 (by kernel_rfl) (by decide) fun xs hg hp => ?_
  obtain ⟨xs, ⟨⟩⟩ := xs
  obtain ⟨⟨hl, hx⟩, -⟩ := hg
  change List Int at xs
  have hl := len63 hl
  change xs.length ≤ _ at hl
  change ∀ x ∈ xs, Eng.Good (.int .u8) x at hx
  clear hp
  have hb0 := byte0 hx 0
  show vfun tab _ k77 Try.f77 [.sl (.int .u8) xs] [] _
  refine Ev.out ?_
  repeat' (first | ((with_reducible refine Ev.mk ?_); conv => whnf) | (with_reducible refine And.intro ?_ ?_) | (intro h))
  all_goals (try simp only [decide_eq_true_eq, decide_eq_false_iff_not, beq_iff_eq, bne_iff_ne, beq_eq_false_iff_ne, bne_eq_false_iff_eq, Int.toNat_natCast, ge_iff_le, gt_iff_lt, Bool.not_eq_true', Bool.not_eq_false', Int.not_lt, Int.not_le, ne_eq] at *)
  all_goals (try dsimp only [Ty.den, Ty.dflt, BT, sLow, sNumber] at *)
  all_goals (try simp only [eq4, ne4, eq3, ne3, eq2, ne2, Prod.eta, List.length_cons, List.length_nil, List.length_append, Nat.zero_add] at *)
  all_goals (try simp (disch := omega) only [wrap64] at *)
  all_goals (try simp only [Int.reduceToNat] at *)
  all_goals (try simp (disch := omega) only [wrap64] at *)
  all_goals try first | exact leafDraw (by kernel_rfl) | exact Leaf.mk trivial | (refine Leaf.mk ?_; omega) | (refine Leaf.mk ?_; unfold maxLen; omega)
  all_goals clear hx
  all_goals (try (refine Leaf.mk ?_; omega))
  all_goals (refine Leaf.mk (ret3 ?_ ?_ ?_) <;> (dsimp only; rw [getSmall]; repeat (first | rw [if_pos (by omega)] | rw [if_neg (by omega)])))
  all_goals (dsimp only; rw [Int.add_comm])
end Go.Proofs.Ytbobjiaggngbmaa

set_option linter.unusedVariables false
set_option linter.unusedSimpArgs false
set_option maxRecDepth 8000
namespace Go.Proofs.Ytbobjiaggngbmaa
open Go.Eng
theorem flat_at {α : Type} {xs : List (List α)} {i : Nat} (h : i < xs.length) : (xs.take (i + 1)).flatten = (xs.take i).flatten ++ xs.getD i [] := by
  rw [take_at [] h, List.flatten_append]; simp
theorem flat_le {α : Type} {xs : List (List α)} (i : Nat) : (xs.take i).flatten.length ≤ xs.flatten.length := by
  conv => rhs; rw [← List.take_append_drop i xs]
  rw [List.flatten_append, List.length_append]; omega
theorem flat_get {α : Type} {xs : List (List α)} {i : Nat} (h : i < xs.length) : (xs.take i).flatten.length + (xs.getD i []).length ≤ xs.flatten.length := by
  have := flat_le (xs := xs) (i + 1)
  rw [flat_at h, List.length_append] at this; exact this
theorem fGrowB : FnOk Try.prog 71 := ⟨_, Try.func71, by decide, rfl⟩
noncomputable def iGrowB : Eng.Spec := inl tab (spOf []) k71 Try.f71
theorem pGrowB : SpecOk Try.prog 71 iGrowB := inl_ok tabOk spNil (by kernel_rfl) Try.func71 (by kernel_rfl)
def sConcatB : PSpec := ⟨[.d (.slice BT)], [⟨false, [.d BT]⟩], fun x => List.length x.1 ≤ 1000 ∧ List.length (List.flatten (α := Int) x.1) ≤ 1000000, fun x => ((List.flatten (α := Int) x.1, ()), ())⟩
theorem fConcatB : FnOk Try.prog 46 := ⟨_, Try.func46, by decide, rfl⟩
theorem pConcatB : PSound Try.prog 46 sConcatB := by
  refine psound (T := tab) (S := (spOf [(71, iGrowB)])) (keep := k46) (by kernel_rfl) tabOk (spCons (.inl ⟨pGrowB, fGrowB⟩) spNil) (by kernel_rfl) Try.func46 (by kernel_rfl) (by decide) fun xs hg hp => ?_
  obtain ⟨xs, ⟨⟩⟩ := xs
  change List (List Int) at xs
  change xs.length ≤ 1000 ∧ xs.flatten.length ≤ 1000000 at hp
  obtain ⟨hp, hf⟩ := hp
  show vfun tab _ k46 Try.f46 [.sl BT xs] [] _
  refine Ev.out ?_
  repeat' (first | ((with_reducible refine Ev.mk ?_); conv => whnf) | (with_reducible refine And.intro ?_ ?_) | (intro h))
  refine LoopVC.on (fun i : Nat => [(11, .i .i64 i), (3, .i .i64 ((xs.take i).flatten.length : Nat))]) (fun _ => []) (fun i => i ≤ xs.length) (fun i => xs.length - i) 0 rfl (by omega) ?_
  intro i hi
  have hle := flat_le (xs := xs) i
  have hge := fun h => flat_get (xs := xs) (i := i) h
  repeat' (first | ((with_reducible refine Ev.mk ?_); conv => whnf) | (with_reducible refine And.intro ?_ ?_) | (intro h))
  all_goals (try simp only [decide_eq_true_eq, decide_eq_false_iff_not, beq_iff_eq, bne_iff_ne, beq_eq_false_iff_ne, bne_eq_false_iff_eq, Int.toNat_natCast, ge_iff_le, gt_iff_lt, Bool.not_eq_true', Bool.not_eq_false', Int.not_lt, Int.not_le, ne_eq] at *)
  all_goals (try dsimp only [Ty.den, Ty.dflt, BT] at *)
  all_goals (try simp only [eq4, ne4, eq3, ne3, eq2, ne2, Prod.eta, List.length_cons, List.length_nil, List.length_append, Nat.zero_add] at *)
  all_goals (try simp (disch := omega) only [wrap64] at *)
  all_goals try first | exact leafDraw (by kernel_rfl) | exact Leaf.mk trivial | (refine Leaf.mk ?_; omega) | (refine Leaf.mk ?_; unfold maxLen; omega)
  · omega
  · refine Leaf.mk ⟨i + 1, ?_, by omega, by omega⟩
    rw [flat_at (by omega), List.length_append]; simp only [Int.natCast_add]; rfl
  · omega
  · refine LoopVC.on (fun j : Nat => [(27, .i .i64 j)]) (fun j => [(0, .arr 5 (.int .u8) (xs.take j).flatten)]) (fun j => j ≤ xs.length) (fun j => xs.length - j) 0 rfl (by omega) ?_
    intro j hj
    have hle := flat_le (xs := xs) j
    have hge := fun h => flat_get (xs := xs) (i := j) h
    repeat' (first | ((with_reducible refine Ev.mk ?_); conv => whnf) | (with_reducible refine And.intro ?_ ?_) | (intro h))
    all_goals (try simp only [decide_eq_true_eq, decide_eq_false_iff_not, beq_iff_eq, bne_iff_ne, beq_eq_false_iff_ne, bne_eq_false_iff_eq, Int.toNat_natCast, ge_iff_le, gt_iff_lt, Bool.not_eq_true', Bool.not_eq_false', Int.not_lt, Int.not_le, ne_eq] at *)
    all_goals (try dsimp only [Ty.den, Ty.dflt, BT] at *)
    all_goals (try simp only [eq4, ne4, eq3, ne3, eq2, ne2, Prod.eta, List.length_cons, List.length_nil, List.length_append, Nat.zero_add] at *)
    all_goals (try simp (disch := omega) only [wrap64] at *)
    all_goals try first | exact leafDraw (by kernel_rfl) | exact Leaf.mk trivial | (refine Leaf.mk ?_; omega) | (refine Leaf.mk ?_; unfold maxLen; omega)
    · refine Leaf.mk ⟨j + 1, ?_, by omega, by omega⟩
      rw [flat_at (by omega)]; rfl
    · rw [List.take_of_length_le (by omega)]; exact Leaf.mk (ret1 rfl)
  · refine LoopVC.weak [(.slot 6, .nil 5 (.int .u8))] (fun j : Nat => [(27, .i .i64 j)]) (fun j => [(0, .arr 5 (.int .u8) (xs.take j).flatten)]) (fun j => j ≤ xs.length) (fun j => xs.length - j) 0 (Ev.mk ?_)
    (conv => whnf)
    refine ⟨Leaf.mk rfl, Leaf.mk ?_, ?_⟩
    · omega
    intro j hj
    have hle := flat_le (xs := xs) j
    have hge := fun h => flat_get (xs := xs) (i := j) h
    repeat' (first | ((with_reducible refine Ev.mk ?_); conv => whnf) | (with_reducible refine And.intro ?_ ?_) | (intro h))
    all_goals (try simp only [decide_eq_true_eq, decide_eq_false_iff_not, beq_iff_eq, bne_iff_ne, beq_eq_false_iff_ne, bne_eq_false_iff_eq, Int.toNat_natCast, ge_iff_le, gt_iff_lt, Bool.not_eq_true', Bool.not_eq_false', Int.not_lt, Int.not_le, ne_eq] at *)
    all_goals (try dsimp only [Ty.den, Ty.dflt, BT] at *)
    all_goals (try simp only [eq4, ne4, eq3, ne3, eq2, ne2, Prod.eta, List.length_cons, List.length_nil, List.length_append, Nat.zero_add] at *)
    all_goals (try simp (disch := omega) only [wrap64] at *)
    all_goals try first | exact leafDraw (by kernel_rfl) | exact Leaf.mk trivial | (refine Leaf.mk ?_; omega) | (refine Leaf.mk ?_; unfold maxLen; omega)
    · refine Leaf.mk ⟨j + 1, ?_, by omega, by omega⟩
      rw [flat_at (by omega)]; rfl
    · rw [List.take_of_length_le (by omega)]; exact Leaf.mk (ret1 rfl)
end Go.Proofs.Ytbobjiaggngbmaa

set_option linter.unusedVariables false
set_option linter.unusedSimpArgs false
namespace Go.Proofs.Ytbobjiaggngbmaa
open Go.Eng
def sBCloneO : PSpec := ⟨[.d BT], [⟨false, [.o 5 (.int .u8)]⟩], fun x => x.1.length ≤ 1000000, fun x => ((x.1, ()), ())⟩
theorem fBCloneO : FnOk Try.prog 73 := ⟨_, Try.func73, by decide, rfl⟩
theorem pBCloneO : PSound Try.prog 73 sBCloneO := by
  refine psound (T := tab) (S := (spOf [])) (keep := k73) (by kernel_rfl) tabOk spNil (by kernel_rfl) Try.func73 (by kernel_rfl) (by decide) fun xs hg hp => ?_
  obtain ⟨xs, ⟨⟩⟩ := xs
  obtain ⟨⟨hl, -⟩, -⟩ := hg
  change List Int at xs
  clear hl
  change xs.length ≤ 1000000 at hp
  show vfun tab _ k73 Try.f73 [.sl (.int .u8) xs] [] _
  refine Ev.out ?_
  repeat' (first | ((with_reducible refine Ev.mk ?_); conv => whnf) | (with_reducible refine And.intro ?_ ?_) | (intro h))
  all_goals (try simp only [decide_eq_true_eq, decide_eq_false_iff_not, beq_iff_eq, bne_iff_ne, beq_eq_false_iff_ne, bne_eq_false_iff_eq, Int.toNat_natCast, ge_iff_le, gt_iff_lt, Bool.not_eq_true', Bool.not_eq_false', Int.not_lt, Int.not_le, ne_eq] at *)
  all_goals (try dsimp only [Ty.den, Ty.dflt, BT] at *)
  all_goals (try simp only [eq4, ne4, eq3, ne3, eq2, ne2, Prod.eta, List.length_cons, List.length_nil, List.length_append, Nat.zero_add] at *)
  all_goals (try simp (disch := omega) only [wrap64] at *)
  all_goals try first | exact leafDraw (by kernel_rfl) | exact Leaf.mk trivial | (refine Leaf.mk ?_; omega) | (refine Leaf.mk ?_; unfold maxLen; omega)
  · refine Leaf.mk (ret1 (show ([] : List Int) = xs from ?_))
    exact (List.eq_nil_of_length_eq_zero h).symm
  · exact Leaf.mk (ret1 rfl)
def behN (xs : List Int) : Nat → Nat
  | 0 => 0
  | n + 1 => if xs.getD n 0 = 255 then behN xs n else n + 1
def behL (xs : List Int) : List Int × Bool := match behN xs xs.length with
  | 0 => ([], false)
  | n + 1 => (xs.take n ++ [xs.getD n 0 + 1], true)
theorem take_set (xs : List Int) {m : Nat} (h : m < xs.length) (v : Int) : (xs.take (m + 1)).set m v = xs.take m ++ [v] := by
  rw [List.take_succ_eq_append_getElem h, List.set_append_right _ _ (by simp; omega)]
  simp [List.length_take, Nat.min_eq_left (Nat.le_of_lt h)]
theorem getD_take (xs : List Int) {m n : Nat} (h : m < n) : (xs.take n).getD m 0 = xs.getD m 0 := by
  simp only [List.getD_eq_getElem?_getD, List.getElem?_take, if_pos h]
def sBehind : PSpec := ⟨[.d BT], [⟨false, [.d BT]⟩, ⟨false, [.d .bool]⟩], fun x => x.1.length ≤ 100000, fun x => (((behL x.1).1, ()), ((behL x.1).2, ()), ())⟩
theorem fBehind : FnOk Try.prog 60 := ⟨_, Try.func60, by decide, rfl⟩
theorem pBehind : PSound Try.prog 60 sBehind := by
  refine psound (T := tab) (S := (spOf [(73, sBCloneO.spec (lsOf []))])) (keep := k60) (by kernel_rfl) tabOk (spCons (pOk pBCloneO fBCloneO (by decide) lsNil) spNil) (by kernel_rfl) Try.func60 (by kernel_rfl) (by decide) fun xs hg hp => ?_
  obtain ⟨xs, ⟨⟩⟩ := xs
  obtain ⟨⟨hl, hx⟩, -⟩ := hg
  change List Int at xs
  clear hl
  change xs.length ≤ 100000 at hp
  change ∀ x ∈ xs, Eng.Good (.int .u8) x at hx
  show vfun tab _ k60 Try.f60 [.sl (.int .u8) xs] [] _
  refine Ev.out ?_
  repeat' (first | ((with_reducible refine Ev.mk ?_); conv => whnf) | (with_reducible refine And.intro ?_ ?_) | (intro h))
  all_goals (try simp only [decide_eq_true_eq, decide_eq_false_iff_not, beq_iff_eq, bne_iff_ne, beq_eq_false_iff_ne, bne_eq_false_iff_eq, Int.toNat_natCast, ge_iff_le, gt_iff_lt, Bool.not_eq_true', Bool.not_eq_false', Int.not_lt, Int.not_le, ne_eq] at *)
  all_goals (try dsimp only [Ty.den, Ty.dflt, BT, sBCloneO] at *)
  all_goals (try simp only [eq4, ne4, eq3, ne3, eq2, ne2, Prod.eta, List.length_cons, List.length_nil, List.length_append, Nat.zero_add] at *)
  all_goals (try simp (disch := omega) only [wrap64] at *)
  all_goals try first | exact leafDraw (by kernel_rfl) | exact Leaf.mk trivial | (refine Leaf.mk ?_; omega) | (refine Leaf.mk ?_; unfold maxLen; omega)
  refine LoopVC.on (fun _ => []) (fun n : Nat => [(0, .arr 5 (.int .u8) (xs.take n))]) (fun n => n ≤ xs.length ∧ behN xs xs.length = behN xs n) (fun n => n) xs.length ?_ ⟨Nat.le_refl _, rfl⟩ ?_
  · rw [List.take_length]; rfl
  intro n ⟨hn, hb⟩
  have hln : (xs.take n).length = n := by rw [List.length_take]; omega
  repeat' (first | ((with_reducible refine Ev.mk ?_); conv => whnf) | (with_reducible refine And.intro ?_ ?_) | (intro h))
  all_goals (try simp only [decide_eq_true_eq, decide_eq_false_iff_not, beq_iff_eq, bne_iff_ne, beq_eq_false_iff_ne, bne_eq_false_iff_eq, Int.toNat_natCast, ge_iff_le, gt_iff_lt, Bool.not_eq_true', Bool.not_eq_false', Int.not_lt, Int.not_le, ne_eq] at *)
  all_goals (try dsimp only [Ty.den, Ty.dflt, BT] at *)
  all_goals (try simp only [eq4, ne4, eq3, ne3, eq2, ne2, Prod.eta, List.length_cons, List.length_nil, List.length_append, Nat.zero_add] at *)
  all_goals (try simp (disch := omega) only [wrap64] at *)
  all_goals (try simp only [hln] at *)
  all_goals try first | exact leafDraw (by kernel_rfl) | exact Leaf.mk trivial | (refine Leaf.mk ?_; omega) | (refine Leaf.mk ?_; unfold maxLen; omega)
  · obtain ⟨m, rfl⟩ : ∃ m, n = m + 1 := ⟨n - 1, by omega⟩
    have e : (((m + 1 : Nat) : Int) - 1).toNat = m := by omega
    rw [e, getD_take xs (by omega)] at h
    refine Leaf.mk ⟨m, ?_, ⟨by omega, ?_⟩, by omega⟩
    · rw [e, List.take_take, show min m (m + 1) = m by omega]; rfl
    · rw [hb, behN, if_pos h]
  · obtain ⟨m, rfl⟩ : ∃ m, n = m + 1 := ⟨n - 1, by omega⟩
    have e : (((m + 1 : Nat) : Int) - 1).toNat = m := by omega
    rw [e, getD_take xs (by omega)] at h
    have hm := byte_at hx (i := m) (by omega)
    rw [behN, if_neg h] at hb
    have hB : behL xs = (xs.take m ++ [xs.getD m 0 + 1], true) := by unfold behL; rw [hb]
    rw [e, getD_take xs (by omega), take_set xs (by omega), wrapU8, show (xs.getD m 0 + 1) % 256 = xs.getD m 0 + 1 by omega]
    refine Leaf.mk (ret2 ?_ ?_)
    · show _ = (behL xs).1
      rw [hB]
    · show _ = (behL xs).2
      rw [hB]
  · obtain rfl : n = 0 := by omega
    have hB : behL xs = ([], false) := by unfold behL; rw [hb]; rfl
    refine Leaf.mk (ret2 ?_ ?_)
    · show _ = (behL xs).1
      rw [hB]
    · show _ = (behL xs).2
      rw [hB]
def sBehindR : PSpec := sBehind
theorem fBehindR : FnOk Try.prog 61 := ⟨_, Try.func61, by decide, rfl⟩
theorem pBehindR : PSound Try.prog 61 sBehindR := by
  refine psound (T := tab) (S := (spOf [])) (keep := k61) (by kernel_rfl) tabOk spNil (by kernel_rfl) Try.func61 (by kernel_rfl) (by decide) fun xs hg hp => ?_
  obtain ⟨xs, ⟨⟩⟩ := xs
  obtain ⟨⟨hl, hx⟩, -⟩ := hg
  change List Int at xs
  clear hl
  change xs.length ≤ 100000 at hp
  change ∀ x ∈ xs, Eng.Good (.int .u8) x at hx
  show vfun tab _ k61 Try.f61 [.sl (.int .u8) xs] [] _
  refine Ev.out ?_
  repeat' (first | ((with_reducible refine Ev.mk ?_); conv => whnf) | (with_reducible refine And.intro ?_ ?_) | (intro h))
  all_goals (try simp only [decide_eq_true_eq, decide_eq_false_iff_not, beq_iff_eq, bne_iff_ne, beq_eq_false_iff_ne, bne_eq_false_iff_eq, Int.toNat_natCast, ge_iff_le, gt_iff_lt, Bool.not_eq_true', Bool.not_eq_false', Int.not_lt, Int.not_le, ne_eq] at *)
  all_goals (try dsimp only [Ty.den, Ty.dflt, BT] at *)
  all_goals (try simp only [eq4, ne4, eq3, ne3, eq2, ne2, Prod.eta, List.length_cons, List.length_nil, List.length_append, Nat.zero_add] at *)
  all_goals (try simp (disch := omega) only [wrap64] at *)
  all_goals try first | exact leafDraw (by kernel_rfl) | exact Leaf.mk trivial | (refine Leaf.mk ?_; omega) | (refine Leaf.mk ?_; unfold maxLen; omega)
  refine LoopVC.on (fun n : Nat => [(4, .i .i64 ((n : Int) - 1))]) (fun _ => []) (fun n => n ≤ xs.length ∧ behN xs xs.length = behN xs n) (fun n => n) xs.length rfl ⟨Nat.le_refl _, rfl⟩ ?_
  intro n ⟨hn, hb⟩
  repeat' (first | ((with_reducible refine Ev.mk ?_); conv => whnf) | (with_reducible refine And.intro ?_ ?_) | (intro h))
  all_goals (try simp only [decide_eq_true_eq, decide_eq_false_iff_not, beq_iff_eq, bne_iff_ne, beq_eq_false_iff_ne, bne_eq_false_iff_eq, Int.toNat_natCast, ge_iff_le, gt_iff_lt, Bool.not_eq_true', Bool.not_eq_false', Int.not_lt, Int.not_le, ne_eq] at *)
  all_goals (try dsimp only [Ty.den, Ty.dflt, BT] at *)
  all_goals (try simp only [eq4, ne4, eq3, ne3, eq2, ne2, Prod.eta, List.length_cons, List.length_nil, List.length_append, Nat.zero_add] at *)
  all_goals (try simp (disch := omega) only [wrap64] at *)
  all_goals (try simp only [Int.reduceToNat, List.drop_zero, List.nil_append] at *)
  all_goals (try simp only [List.length_take] at *)
  all_goals try first | exact leafDraw (by kernel_rfl) | exact Leaf.mk trivial | (refine Leaf.mk ?_; omega) | (refine Leaf.mk ?_; unfold maxLen; omega)
  · obtain ⟨m, rfl⟩ : ∃ m, n = m + 1 := ⟨n - 1, by omega⟩
    have e : (((m + 1 : Nat) : Int) - 1).toNat = m := by omega
    rw [e] at h
    have hm := byte_at hx (i := m) (by omega)
    rw [behN, if_neg h] at hb
    have hB : behL xs = (xs.take m ++ [xs.getD m 0 + 1], true) := by unfold behL; rw [hb]
    rw [e, wrapU8, show (xs.getD m 0 + 1) % 256 = xs.getD m 0 + 1 by omega]
    refine Leaf.mk (ret2 ?_ ?_)
    · show _ = (behL xs).1
      rw [hB]; try rfl
    · show _ = (behL xs).2
      rw [hB]
  · obtain ⟨m, rfl⟩ : ∃ m, n = m + 1 := ⟨n - 1, by omega⟩
    have e : (((m + 1 : Nat) : Int) - 1).toNat = m := by omega
    rw [e] at h
    refine Leaf.mk ⟨m, ?_, ⟨by omega, ?_⟩, by omega⟩
    · rw [show ((m + 1 : Nat) : Int) - 1 - 1 = (m : Int) - 1 by omega]; rfl
    · rw [hb, behN, if_pos h]
  · obtain rfl : n = 0 := by omega
    have hB : behL xs = ([], false) := by unfold behL; rw [hb]; rfl
    refine Leaf.mk (ret2 ?_ ?_)
    · show _ = (behL xs).1
      rw [hB]
    · show _ = (behL xs).2
      rw [hB]
end Go.Proofs.Ytbobjiaggngbmaa

set_option linter.unusedVariables false
set_option linter.unusedSimpArgs false
namespace Go.Proofs.Ytbobjiaggngbmaa
open Go.Eng
def txt : List Int → List Int → Nat → List Int × Int × Int
  | [], _, _ => ([], 0, 3)
  | c :: r, acc, p => if c = 0 then match r with
      | [] => ([], 0, 3)
      | d :: t => if d = 1 then (acc, ((p + 2 : Nat) : Int), 0) else if d = 255 then txt t (acc ++ [0]) (p + 2) else ([], 0, 4)
    else txt r (acc ++ [c]) (p + 1)
theorem txt_ne {c : Int} (h : ¬ c = 0) (r acc : List Int) (p : Nat) : txt (c :: r) acc p = txt r (acc ++ [c]) (p + 1) := by
  conv => lhs; rw [txt.eq_def]
  exact if_neg h
theorem txt_end {c : Int} (h : c = 0) (acc : List Int) (p : Nat) : txt [c] acc p = ([], 0, 3) := by
  conv => lhs; rw [txt.eq_def]
  exact if_pos h
theorem txt_esc {c : Int} (h : c = 0) (d : Int) (t acc : List Int) (p : Nat) : txt (c :: d :: t) acc p = if d = 1 then (acc, ((p + 2 : Nat) : Int), 0) else if d = 255 then txt t (acc ++ [0]) (p + 2) else ([], 0, 4) := by
  conv => lhs; rw [txt.eq_def]
  exact if_pos h
theorem byte_mem {xs : List Int} (hx : ∀ x ∈ xs, Eng.Good (.int .u8) x) {x : Int} (h : x ∈ xs) : 0 ≤ x ∧ x ≤ 255 := bdu8 (hx x h)
theorem byte_eq {c : Int} (h : 0 ≤ c ∧ c ≤ 255) : (UInt8.ofNat c.toNat == Nat.toUInt8 0) = decide (c = 0) := by
  obtain ⟨n, rfl⟩ := Int.eq_ofNat_of_zero_le h.1
  have h2 : n ≤ 255 := by omega
  clear h
  have : ∀ m : Fin 256, (UInt8.ofNat ((m.val : Nat) : Int).toNat == Nat.toUInt8 0) = decide (((m.val : Nat) : Int) = 0) := by decide +kernel
  exact this ⟨n, by omega⟩
theorem idx_out : ∀ (r : List Int), (∀ x ∈ r, 0 ≤ x ∧ x ≤ 255) →
    (Lib.indexByte (strOfBytes r) (Nat.toUInt8 0) = -1 ∧ ∀ acc p, txt r acc p = ([], 0, 3)) ∨
    (∃ k : Nat, Lib.indexByte (strOfBytes r) (Nat.toUInt8 0) = k ∧ k < r.length ∧ r.getD k 0 = 0 ∧ ∀ acc p, txt r acc p = txt (r.drop k) (acc ++ r.take k) (p + k))
  | [], _ => .inl ⟨rfl, fun acc p => rfl⟩
  | c :: r, h => by
    have hc := byte_eq (h c (by simp))
    have ih := idx_out r (fun x hx => h x (by simp [hx]))
    have e : Lib.indexByte (strOfBytes (c :: r)) (Nat.toUInt8 0) = if c = 0 then 0 else if Lib.indexByte (strOfBytes r) (Nat.toUInt8 0) == -1 then -1 else Lib.indexByte (strOfBytes r) (Nat.toUInt8 0) + 1 := by
      show (if (UInt8.ofNat c.toNat == Nat.toUInt8 0) = true then _ else _) = _
      rw [hc]
      simp only [decide_eq_true_eq]
      rfl
    rw [e]
    by_cases h0 : c = 0
    · rw [if_pos h0]
      exact .inr ⟨0, rfl, by simp, h0, fun acc p => by simp⟩
    · rw [if_neg h0]
      rcases ih with ⟨h1, h2⟩ | ⟨k, h1, h2, h3, h4⟩
      · rw [h1]
        exact .inl ⟨rfl, fun acc p => by rw [txt_ne h0, h2]⟩
      · rw [h1]
        refine .inr ⟨k + 1, ?_, by simpa using h2, by simpa using h3, fun acc p => ?_⟩
        · rw [if_neg (by simp)]; first | rfl | omega
        · rw [txt_ne h0, h4]
          simp only [List.drop_succ_cons, List.take_succ_cons, List.append_assoc, List.singleton_append]
          rw [show p + 1 + k = p + (k + 1) by omega]
theorem tn2 (i k : Nat) : ((i : Int) + (k : Int)).toNat = i + k := by omega
theorem tn3 (i k : Nat) : ((i : Int) + ((k : Int) + 2) - 1).toNat = i + k + 1 := by omega
theorem idx_xs {xs : List Int} (hx : ∀ x ∈ xs, 0 ≤ x ∧ x ≤ 255) {i : Nat} (hi : i ≤ xs.length) :
    (Lib.indexByte (strOfBytes (xs.drop i)) (Nat.toUInt8 0) = -1 ∧ ∀ acc p, txt (xs.drop i) acc p = ([], 0, 3)) ∨
    (∃ k : Nat, Lib.indexByte (strOfBytes (xs.drop i)) (Nat.toUInt8 0) = k ∧ i + k < xs.length ∧ xs.getD (i + k) 0 = 0 ∧ ((xs.take (i + k)).drop i).length = k ∧ ∀ acc p, txt (xs.drop i) acc p = txt (xs.drop (i + k)) (acc ++ (xs.take (i + k)).drop i) (p + k)) := by
  rcases idx_out (xs.drop i) (fun x h => hx x (List.mem_of_mem_drop h)) with h | ⟨k, h1, h2, h3, h4⟩
  · exact .inl h
  · rw [List.length_drop] at h2
    refine .inr ⟨k, h1, by omega, ?_, by rw [List.length_drop, List.length_take]; omega, fun acc p => ?_⟩
    · rw [List.getD_eq_getElem?_getD, List.getElem?_drop] at h3
      rw [List.getD_eq_getElem?_getD]; exact h3
    · rw [h4, List.drop_drop, List.drop_take, Nat.add_sub_cancel_left]
def getText (xs : List Int) : List UInt8 × Int × Int := (strOfBytes (txt xs [] 0).1, (txt xs [] 0).2.1, (txt xs [] 0).2.2)
def sGetText : PSpec := ⟨[.d BT], [⟨false, [.d .str]⟩, ⟨false, [.d (.int .i64)]⟩, ⟨false, [.d (.int .i64)]⟩], fun x => x.1.length ≤ 100000, fun x => (((getText x.1).1, ()), ((getText x.1).2.1, ()), ((getText x.1).2.2, ()), ())⟩
def sGetTextR : PSpec := sGetText
theorem fGetTextR : FnOk Try.prog 78 := ⟨_, Try.func78, by decide, rfl⟩
theorem pGetTextR : PSound Try.prog 78 sGetTextR := by
  refine psound (T := tab) (S := (spOf [])) (keep := k78) (by kernel_rfl) tabOk spNil (by kernel_rfl) Try.func78 (by kernel_rfl) (by decide) fun xs hg hp => ?_
  obtain ⟨xs, ⟨⟩⟩ := xs
  obtain ⟨⟨hl, hx⟩, -⟩ := hg
  change List Int at xs
  clear hl
  change xs.length ≤ 100000 at hp
  change ∀ x ∈ xs, Eng.Good (.int .u8) x at hx
  show vfun tab _ k78 Try.f78 [.sl (.int .u8) xs] [] _
  refine Ev.out ?_
  repeat' (first | ((with_reducible refine Ev.mk ?_); conv => whnf) | (with_reducible refine And.intro ?_ ?_) | (intro h))
  all_goals (try simp only [decide_eq_true_eq, decide_eq_false_iff_not, beq_iff_eq, bne_iff_ne, beq_eq_false_iff_ne, bne_eq_false_iff_eq, Int.toNat_natCast, ge_iff_le, gt_iff_lt, Bool.not_eq_true', Bool.not_eq_false', Int.not_lt, Int.not_le, ne_eq] at *)
  all_goals (try dsimp only [Ty.den, Ty.dflt, BT] at *)
  all_goals (try simp only [eq4, ne4, eq3, ne3, eq2, ne2, Prod.eta, List.length_cons, List.length_nil, List.length_append, Nat.zero_add] at *)
  all_goals (try simp (disch := omega) only [wrap64] at *)
  all_goals try first | exact leafDraw (by kernel_rfl) | exact Leaf.mk trivial | (refine Leaf.mk ?_; omega) | (refine Leaf.mk ?_; unfold maxLen; omega)
  refine LoopVC.weak [(.slot 5, .nil 5 (.int .u8))] (fun a : Nat × List Int => [(6, .i .i64 a.1)]) (fun a => [(0, .arr 5 (.int .u8) a.2)]) (fun a => a.1 ≤ xs.length ∧ a.2.length ≤ a.1 ∧ txt xs [] 0 = txt (xs.drop a.1) a.2 a.1) (fun a => xs.length - a.1) (0, []) (Ev.mk ?_)
  (conv => whnf)
  refine ⟨Leaf.mk ?_, Leaf.mk ?_, ?_⟩
  · rfl
  · exact ⟨by omega, by simp, rfl⟩
  intro ⟨i, acc⟩ ⟨hi, ha, ht⟩
  dsimp only at hi ha ht
  repeat' (first | ((with_reducible refine Ev.mk ?_); conv => whnf) | (with_reducible refine And.intro ?_ ?_) | (intro h))
  all_goals (try simp only [decide_eq_true_eq, decide_eq_false_iff_not, beq_iff_eq, bne_iff_ne, beq_eq_false_iff_ne, bne_eq_false_iff_eq, Int.toNat_natCast, ge_iff_le, gt_iff_lt, Bool.not_eq_true', Bool.not_eq_false', Int.not_lt, Int.not_le, ne_eq] at *)
  all_goals (try dsimp only [Ty.den, Ty.dflt, BT, sIndexByte] at *)
  all_goals (try simp only [eq4, ne4, eq3, ne3, eq2, ne2, Prod.eta, List.length_cons, List.length_nil, List.length_append, Nat.zero_add] at *)
  all_goals (try simp (disch := omega) only [wrap64] at *)
  all_goals (try simp only [Int.reduceToNat] at *)
  all_goals try first | exact leafDraw (by kernel_rfl) | exact Leaf.mk trivial | (refine Leaf.mk ?_; omega) | (refine Leaf.mk ?_; unfold maxLen; omega)
  · rw [drop_at 0 (by omega), txt_ne h] at ht
    exact Leaf.mk ⟨(i + 1, acc ++ [xs.getD i 0]), rfl, ⟨by dsimp only; omega, by simp; omega, ht⟩, by dsimp only; omega⟩
  · rename_i h0
    rw [drop_at 0 (by omega), List.drop_eq_nil_of_le (by omega), txt_end h0] at ht
    refine Leaf.mk (ret3 ?_ ?_ ?_) <;> (dsimp only [getText]; rw [ht]) <;> rfl
  · rename_i h1 h0
    rw [show ((i : Int) + 1).toNat = i + 1 by omega] at h
    rw [drop_at 0 (by omega), drop_at 0 (show i + 1 < xs.length by omega), txt_esc h1] at ht
    rw [if_pos h] at ht
    refine Leaf.mk (ret3 ?_ ?_ ?_) <;> (dsimp only [getText]; rw [ht]) <;> rfl
  · rename_i h1 h0 hn
    rw [show ((i : Int) + 1).toNat = i + 1 by omega] at h hn
    rw [drop_at 0 (by omega), drop_at 0 (show i + 1 < xs.length by omega), txt_esc h1] at ht
    rw [if_neg hn, if_pos h] at ht
    exact Leaf.mk ⟨(i + 2, acc ++ [0]), by rw [show (i : Int) + 1 + 1 = ((i + 2 : Nat) : Int) by omega]; rfl, ⟨by dsimp only; omega, by simp; omega, ht⟩, by dsimp only; omega⟩
  · rename_i h1 h0 hn
    rw [show ((i : Int) + 1).toNat = i + 1 by omega] at h hn
    rw [drop_at 0 (by omega), drop_at 0 (show i + 1 < xs.length by omega), txt_esc h1] at ht
    rw [if_neg hn, if_neg h] at ht
    refine Leaf.mk (ret3 ?_ ?_ ?_) <;> (dsimp only [getText]; rw [ht]) <;> rfl
  · rw [List.drop_eq_nil_of_le (by omega)] at ht
    refine Leaf.mk (ret3 ?_ ?_ ?_) <;> (dsimp only [getText]; rw [ht]) <;> rfl
theorem fGetText : FnOk Try.prog 76 := ⟨_, Try.func76, by decide, rfl⟩
theorem pGetText : PSound Try.prog 76 sGetText := by
  refine psound (T := tab) (S := (spOf [(85, sIndexByte.spec (lsOf []))])) (keep := k76) (by kernel_rfl) tabOk (spCons (pOk pIndexByte fIndexByte (by decide) lsNil) spNil) (by kernel_rfl) Try.func76 (by kernel_rfl) (by decide) fun xs hg hp => ?_
  obtain ⟨xs, ⟨⟩⟩ := xs
  obtain ⟨⟨hl, hx⟩, -⟩ := hg
  change List Int at xs
  clear hl
  change xs.length ≤ 100000 at hp
  change ∀ x ∈ xs, Eng.Good (.int .u8) x at hx
  show vfun tab _ k76 Try.f76 [.sl (.int .u8) xs] [] _
  refine Ev.out ?_
  repeat' (first | ((with_reducible refine Ev.mk ?_); conv => whnf) | (with_reducible refine And.intro ?_ ?_) | (intro h))
  all_goals (try simp only [decide_eq_true_eq, decide_eq_false_iff_not, beq_iff_eq, bne_iff_ne, beq_eq_false_iff_ne, bne_eq_false_iff_eq, Int.toNat_natCast, ge_iff_le, gt_iff_lt, Bool.not_eq_true', Bool.not_eq_false', Int.not_lt, Int.not_le, ne_eq] at *)
  all_goals (try dsimp only [Ty.den, Ty.dflt, BT] at *)
  all_goals (try simp only [eq4, ne4, eq3, ne3, eq2, ne2, Prod.eta, List.length_cons, List.length_nil, List.length_append, Nat.zero_add] at *)
  all_goals (try simp (disch := omega) only [wrap64] at *)
  all_goals try first | exact leafDraw (by kernel_rfl) | exact Leaf.mk trivial | (refine Leaf.mk ?_; omega) | (refine Leaf.mk ?_; unfold maxLen; omega)
  refine LoopVC.weak [(.slot 5, .nil 5 (.int .u8))] (fun a : Nat × List Int => [(6, .i .i64 a.1)]) (fun a => [(0, .arr 5 (.int .u8) a.2)]) (fun a => a.1 ≤ xs.length ∧ a.2.length ≤ a.1 ∧ txt xs [] 0 = txt (xs.drop a.1) a.2 a.1) (fun a => xs.length - a.1) (0, []) (Ev.mk ?_)
  (conv => whnf)
  refine ⟨Leaf.mk ?_, Leaf.mk ?_, ?_⟩
  · rfl
  · exact ⟨by omega, by simp, rfl⟩
  intro ⟨i, acc⟩ ⟨hi, ha, ht⟩
  dsimp only at hi ha ht
  have hk := idx_xs (fun x h => byte_mem hx h) hi
  repeat' (first | ((with_reducible refine Ev.mk ?_); conv => whnf) | (with_reducible refine And.intro ?_ ?_) | (intro h))
  all_goals (try dsimp only [sIndexByte] at *)
  all_goals (try simp only [Int.reduceToNat, Int.toNat_natCast, List.take_length] at *)
  all_goals (rcases hk with ⟨k1, k2⟩ | ⟨k, k1, k2, k3, k5, k4⟩ <;> simp only [k1] at *)
  all_goals (try simp only [decide_eq_true_eq, decide_eq_false_iff_not, beq_iff_eq, bne_iff_ne, beq_eq_false_iff_ne, bne_eq_false_iff_eq, Int.toNat_natCast, ge_iff_le, gt_iff_lt, Bool.not_eq_true', Bool.not_eq_false', Int.not_lt, Int.not_le, ne_eq] at *)
  all_goals (try dsimp only [Ty.den, Ty.dflt, BT, sIndexByte] at *)
  all_goals (try simp only [eq4, ne4, eq3, ne3, eq2, ne2, Prod.eta, List.length_cons, List.length_nil, List.length_append, Nat.zero_add] at *)
  all_goals (try simp (disch := omega) only [wrap64] at *)
  all_goals (try simp only [tn2, tn3] at *)
  all_goals try first | exact leafDraw (by kernel_rfl) | exact Leaf.mk trivial | (refine Leaf.mk ?_; omega) | (refine Leaf.mk ?_; unfold maxLen; omega)
  · rw [k2] at ht
    refine Leaf.mk (ret3 ?_ ?_ ?_) <;> (dsimp only [getText]; rw [ht]) <;> rfl
  · rw [k4, drop_at 0 (by omega), List.drop_eq_nil_of_le (by omega), txt_end k3] at ht
    refine Leaf.mk (ret3 ?_ ?_ ?_) <;> (dsimp only [getText]; rw [ht]) <;> rfl
  all_goals (try (refine Leaf.mk ?_; rw [k5]; first | omega | (unfold maxLen; omega)))
  · rw [k4, drop_at 0 (by omega), drop_at 0 (show i + k + 1 < xs.length by omega), txt_esc k3, if_pos h] at ht
    refine Leaf.mk (ret3 ?_ ?_ ?_) <;> (dsimp only [getText]; rw [ht]) <;> first | rfl | (dsimp only; omega)
  · rename_i hn
    rw [k4, drop_at 0 (by omega), drop_at 0 (show i + k + 1 < xs.length by omega), txt_esc k3, if_neg hn, if_pos h] at ht
    refine Leaf.mk ⟨(i + k + 2, acc ++ (xs.take (i + k)).drop i ++ [0]), ?_, ⟨by dsimp only; omega, by dsimp only; simp only [List.length_append, k5, List.length_singleton]; omega, ht⟩, by dsimp only; omega⟩
    rw [show (i : Int) + ((k : Int) + 2) = ((i + k + 2 : Nat) : Int) by omega]; rfl
  · rename_i hn
    rw [k4, drop_at 0 (by omega), drop_at 0 (show i + k + 1 < xs.length by omega), txt_esc k3, if_neg hn, if_neg h] at ht
    refine Leaf.mk (ret3 ?_ ?_ ?_) <;> (dsimp only [getText]; rw [ht]) <;> rfl
  all_goals (rw [List.drop_eq_nil_of_le (by omega)] at ht; refine Leaf.mk (ret3 ?_ ?_ ?_) <;> (dsimp only [getText]; rw [ht]) <;> rfl)
end Go.Proofs.Ytbobjiaggngbmaa
