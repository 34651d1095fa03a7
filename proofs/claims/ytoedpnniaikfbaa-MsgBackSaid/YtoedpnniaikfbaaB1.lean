import Derived.Test.YtoedpnniaikfbaaTab
import Derived.Test.YtoedpnniaikfbaaEng4


set_option linter.unusedVariables false
set_option linter.unusedSimpArgs false
namespace Go.Proofs.Ytoedpnniaikfbaa
open Go.Eng
abbrev BT : Ty := .slice (.int .u8)
theorem pXIndexByte : XOk Try.prog 181 xIndexByte := xIndexByte_ok Try.func181 (by kernel_rfl) (by kernel_rfl) (by kernel_rfl) (by kernel_rfl)
def sBClone : PSpec := ⟨[.d BT], [⟨false, [.d BT]⟩], fun x => x.1.length ≤ 1000000, fun x => ((x.1, ()), ())⟩
theorem fBClone : FnOk Try.prog 128 := ⟨_, Try.func128, by decide, rfl⟩
theorem pBClone : PSound Try.prog 128 sBClone := by
  refine psound (T := tab) (S := (spOf [])) (keep := k128) (by kernel_rfl) tabOk spNil (by kernel_rfl) Try.func128 (by kernel_rfl) (by decide) fun xs hg hp => ?_
  obtain ⟨xs, ⟨⟩⟩ := xs
  obtain ⟨⟨hl, -⟩, -⟩ := hg
  change List Int at xs
  clear hl
  change xs.length ≤ 1000000 at hp
  show vfun tab _ k128 Try.f128 [.sl (.int .u8) xs] [] _
  refine Ev.out ?_
  repeat' (first | ((with_reducible refine Ev.mk ?_); conv => whnf) | (with_reducible refine And.intro ?_ ?_) | (intro h))
  all_goals (try simp only [decide_eq_true_eq, decide_eq_false_iff_not, beq_iff_eq, bne_iff_ne, beq_eq_false_iff_ne, bne_eq_false_iff_eq, Int.toNat_natCast, ge_iff_le, gt_iff_lt, Bool.not_eq_true', Bool.not_eq_false', Int.not_lt, Int.not_le, ne_eq] at *)
  all_goals (try dsimp only [Ty.den, Ty.dflt, BT] at *)
  all_goals (try simp only [eq4, ne4, eq3, ne3, eq2, ne2, Prod.eta, List.length_cons, List.length_nil, List.length_append, Nat.zero_add] at *)
  all_goals (try simp (disch := omega) only [wrap64] at *)
  all_goals try first | exact leafDraw (by kernel_rfl) | exact Leaf.mk trivial | (refine Leaf.mk ?_; omega) | (refine Leaf.mk ?_; unfold maxLen; omega)
  · refine Leaf.mk (ret1 (show ([] : List Int) = xs from ?_))
    exact (List.eq_nil_of_length_eq_zero h).symm
  · exact Leaf.mk (ret1 rfl)
def sIndexByte : PSpec := ⟨[.d BT, .d (.int .u8)], [⟨false, [.d (.int .i64)]⟩], fun _ => True, fun x => ((Lib.indexByte (strOfBytes x.1) x.2.1.toNat.toUInt8, ()), ())⟩
theorem fIndexByte : FnOk Try.prog 166 := ⟨_, Try.func166, by decide, rfl⟩
theorem pIndexByte : PSound Try.prog 166 sIndexByte := by
  refine psound (T := tab) (S := (spOf [(181, xIndexByte)])) (keep := k166) (by kernel_rfl) tabOk (spCons (.inr pXIndexByte) spNil) (by kernel_rfl) Try.func166 (by kernel_rfl) (by decide) fun xs hg hp => ?_
  obtain ⟨xs, c, ⟨⟩⟩ := xs
  show vfun tab _ k166 Try.f166 [.sl (.int .u8) xs, .i .u8 c] [] _
  refine Ev.out ?_
  repeat' (first | ((with_reducible refine Ev.mk ?_); conv => whnf) | (with_reducible refine And.intro ?_ ?_) | (intro h))
  exact Leaf.mk rfl
def sCompareB : PSpec := ⟨[.d BT, .d BT], [⟨false, [.d (.int .i64)]⟩], fun _ => True, fun x => ((Lib.compareBytes (strOfBytes x.1) (strOfBytes x.2.1), ()), ())⟩
def escI (c : Int) : List Int := if c = 0 then [0, 255] else [c]
def putB (xs : List Int) : List Int := xs.flatMap escI ++ [0, 1]
def putText (s : List UInt8) : List Int := putB (bytesOfStr s)
theorem escI_len (xs : List Int) : (xs.flatMap escI).length ≤ 2 * xs.length := by
  induction xs with
  | nil => simp
  | cons x r ih =>
    simp only [List.flatMap_cons, List.length_append, List.length_cons]
    have : (escI x).length ≤ 2 := by unfold escI; split <;> simp
    omega
def sPutText : PSpec := ⟨[.d .str], [⟨false, [.o 5 (.int .u8)]⟩], fun x => x.1.length ≤ 100000, fun x => ((putText x.1, ()), ())⟩
theorem fPutText : FnOk Try.prog 78 := ⟨_, Try.func78, by decide, rfl⟩
theorem pPutText : PSound Try.prog 78 sPutText := by
  refine psound (T := tab) (S := (spOf [])) (keep := k78) (by kernel_rfl) tabOk spNil (by kernel_rfl) Try.func78 (by kernel_rfl) (by decide) fun xs hg hp => ?_
  obtain ⟨s, ⟨⟩⟩ := xs
  change List UInt8 at s
  change s.length ≤ 100000 at hp
  have hb : (bytesOfStr s).length = s.length := by simp [bytesOfStr]
  have hpt : putText s = putB (bytesOfStr s) := rfl
  show vfun tab _ k78 Try.f78 [.s s] [] _
  refine Ev.out ?_
  repeat' (first | ((with_reducible refine Ev.mk ?_); conv => whnf) | (with_reducible refine And.intro ?_ ?_) | (intro h))
  all_goals (try simp only [decide_eq_true_eq, decide_eq_false_iff_not, beq_iff_eq, bne_iff_ne, beq_eq_false_iff_ne, bne_eq_false_iff_eq, Int.toNat_natCast, ge_iff_le, gt_iff_lt, Bool.not_eq_true', Bool.not_eq_false', Int.not_lt, Int.not_le, ne_eq] at *)
  all_goals (try dsimp only [Ty.den, Ty.dflt, BT] at *)
  all_goals (try simp only [eq4, ne4, eq3, ne3, eq2, ne2, Prod.eta, List.length_cons, List.length_nil, List.length_append, Nat.zero_add] at *)
  all_goals (try simp (disch := omega) only [wrap64] at *)
  all_goals try first | exact leafDraw (by kernel_rfl) | exact Leaf.mk trivial | (refine Leaf.mk ?_; omega) | (refine Leaf.mk ?_; unfold maxLen; omega)
  refine LoopVC.weak [(.slot 3, .nil 5 (.int .u8))] (fun i : Nat => [(9, .i .i64 i)]) (fun i => [(0, .arr 5 (.int .u8) (((bytesOfStr s).take i).flatMap escI))]) (fun i => i ≤ (bytesOfStr s).length) (fun i => (bytesOfStr s).length - i) 0 (Ev.mk ?_)
  (conv => whnf)
  refine ⟨Leaf.mk rfl, Leaf.mk ?_, ?_⟩
  · omega
  intro i hi
  have hc := escI_len ((bytesOfStr s).take i)
  rw [List.length_take] at hc
  repeat' (first | ((with_reducible refine Ev.mk ?_); conv => whnf) | (with_reducible refine And.intro ?_ ?_) | (intro h))
  all_goals (try simp only [decide_eq_true_eq, decide_eq_false_iff_not, beq_iff_eq, bne_iff_ne, beq_eq_false_iff_ne, bne_eq_false_iff_eq, Int.toNat_natCast, ge_iff_le, gt_iff_lt, Bool.not_eq_true', Bool.not_eq_false', Int.not_lt, Int.not_le, ne_eq] at *)
  all_goals (try dsimp only [Ty.den, Ty.dflt, BT] at *)
  all_goals (try simp only [eq4, ne4, eq3, ne3, eq2, ne2, Prod.eta, List.length_cons, List.length_nil, List.length_append, Nat.zero_add] at *)
  all_goals (try simp (disch := omega) only [wrap64] at *)
  all_goals try first | exact leafDraw (by kernel_rfl) | exact Leaf.mk trivial | (refine Leaf.mk ?_; omega) | (refine Leaf.mk ?_; unfold maxLen; omega)
  all_goals first
    | (rw [take_all (by omega)]; exact Leaf.mk (ret1 rfl))
    | (refine Leaf.mk ⟨i + 1, ?_, by omega, by omega⟩
       rw [flatMap_at 0 (by omega)]
       first
       | (rw [show escI ((bytesOfStr s).getD i 0) = [0, 255] from if_pos (by assumption)]; have h7 : (bytesOfStr s).getD i 0 = 0 := by assumption
          rw [h7]; simp only [List.append_assoc, List.cons_append, List.nil_append]; rfl)
       | (rw [show escI ((bytesOfStr s).getD i 0) = [(bytesOfStr s).getD i 0] from if_neg (by assumption)]; rfl))
def sPutTextR : PSpec := sPutText
theorem fPutTextR : FnOk Try.prog 81 := ⟨_, Try.func81, by decide, rfl⟩
theorem pPutTextR : PSound Try.prog 81 sPutTextR := by
  refine psound (T := tab) (S := (spOf [])) (keep := k81) (by kernel_rfl) tabOk spNil (by kernel_rfl) Try.func81 (by kernel_rfl) (by decide) fun xs hg hp => ?_
  obtain ⟨s, ⟨⟩⟩ := xs
  change List UInt8 at s
  change s.length ≤ 100000 at hp
  have hb : (bytesOfStr s).length = s.length := by simp [bytesOfStr]
  show vfun tab _ k81 Try.f81 [.s s] [] _
  refine Ev.out ?_
  repeat' (first | ((with_reducible refine Ev.mk ?_); conv => whnf) | (with_reducible refine And.intro ?_ ?_) | (intro h))
  all_goals (try simp only [decide_eq_true_eq, decide_eq_false_iff_not, beq_iff_eq, bne_iff_ne, beq_eq_false_iff_ne, bne_eq_false_iff_eq, Int.toNat_natCast, ge_iff_le, gt_iff_lt, Bool.not_eq_true', Bool.not_eq_false', Int.not_lt, Int.not_le, ne_eq] at *)
  all_goals (try dsimp only [Ty.den, Ty.dflt, BT] at *)
  all_goals (try simp only [eq4, ne4, eq3, ne3, eq2, ne2, Prod.eta, List.length_cons, List.length_nil, List.length_append, Nat.zero_add] at *)
  all_goals (try simp (disch := omega) only [wrap64] at *)
  all_goals try first | exact leafDraw (by kernel_rfl) | exact Leaf.mk trivial | (refine Leaf.mk ?_; omega) | (refine Leaf.mk ?_; unfold maxLen; omega)
  refine LoopVC.weak [(.slot 3, .nil 5 (.int .u8))] (fun i : Nat => [(4, .i .i64 i)]) (fun i => [(0, .arr 5 (.int .u8) (((bytesOfStr s).take i).flatMap escI))]) (fun i => i ≤ s.length) (fun i => s.length - i) 0 (Ev.mk ?_)
  (conv => whnf)
  refine ⟨Leaf.mk rfl, Leaf.mk ?_, ?_⟩
  · omega
  intro i hi
  have hc := escI_len ((bytesOfStr s).take i)
  rw [List.length_take] at hc
  have hat : i < s.length → ((s.getD i 0).toNat : Int) = (bytesOfStr s).getD i 0 := fun h => by
    simp [bytesOfStr, List.getD, h]
  repeat' (first | ((with_reducible refine Ev.mk ?_); conv => whnf) | (with_reducible refine And.intro ?_ ?_) | (intro h))
  all_goals (try simp only [decide_eq_true_eq, decide_eq_false_iff_not, beq_iff_eq, bne_iff_ne, beq_eq_false_iff_ne, bne_eq_false_iff_eq, Int.toNat_natCast, ge_iff_le, gt_iff_lt, Bool.not_eq_true', Bool.not_eq_false', Int.not_lt, Int.not_le, ne_eq] at *)
  all_goals (try dsimp only [Ty.den, Ty.dflt, BT] at *)
  all_goals (try simp only [eq4, ne4, eq3, ne3, eq2, ne2, Prod.eta, List.length_cons, List.length_nil, List.length_append, Nat.zero_add] at *)
  all_goals (try simp (disch := omega) only [wrap64] at *)
  all_goals (try rw [hat (by omega)] at *)
  all_goals try first | exact leafDraw (by kernel_rfl) | exact Leaf.mk trivial | (refine Leaf.mk ?_; omega) | (refine Leaf.mk ?_; unfold maxLen; omega)
  all_goals first
    | (rw [take_all (by omega)]; exact Leaf.mk (ret1 rfl))
    | (refine Leaf.mk ⟨i + 1, ?_, by omega, by omega⟩
       rw [flatMap_at 0 (by omega)]
       first
       | (rw [show escI ((bytesOfStr s).getD i 0) = [0, 255] from if_pos (by assumption)]; have h7 : (bytesOfStr s).getD i 0 = 0 := by assumption
          rw [h7]; simp only [List.append_assoc, List.cons_append, List.nil_append]; rfl)
       | (rw [show escI ((bytesOfStr s).getD i 0) = [(bytesOfStr s).getD i 0] from if_neg (by assumption)]; rfl))
/-! The number of bytes, the highest first. -/
def numB (xs : List Int) : Int := xs.foldl (fun n c => (n * 256 + c) % 18446744073709551616) 0
theorem numB_bd (xs : List Int) : 0 ≤ numB xs ∧ numB xs ≤ 18446744073709551615 := by
  have : ∀ (l : List Int) (n : Int), 0 ≤ n ∧ n ≤ 18446744073709551615 → 0 ≤ l.foldl (fun n c => (n * 256 + c) % 18446744073709551616) n ∧ l.foldl (fun n c => (n * 256 + c) % 18446744073709551616) n ≤ 18446744073709551615 := by
    intro l
    induction l with
    | nil => intro n h; exact h
    | cons x r ih => intro n h; refine ih _ ?_; dsimp only; omega
  exact this xs 0 (by omega)
theorem numB_at {xs : List Int} {i : Nat} (h : i < xs.length) : numB (xs.take (i + 1)) = (numB (xs.take i) * 256 + xs.getD i 0) % 18446744073709551616 := by
  unfold numB; rw [foldl_at 0 h]
theorem byte_at {xs : List Int} (hx : ∀ x ∈ xs, Eng.Good (.int .u8) x) {i : Nat} (h : i < xs.length) : 0 ≤ xs.getD i 0 ∧ xs.getD i 0 ≤ 255 := bdu8 (good_at (e := .int .u8) hx h 0)
def sNumber : PSpec := ⟨[.d BT], [⟨false, [.d (.int .u64)]⟩], fun _ => True, fun x => ((numB x.1, ()), ())⟩
theorem fNumber : FnOk Try.prog 167 := ⟨_, Try.func167, by decide, rfl⟩
theorem pNumber : PSound Try.prog 167 sNumber := by
  refine psound (T := tab) (S := (spOf [])) (keep := k167) (by kernel_rfl) tabOk spNil (by kernel_rfl) Try.func167 (by kernel_rfl) (by decide) fun xs hg hp => ?_
  obtain ⟨xs, ⟨⟩⟩ := xs
  obtain ⟨⟨hl, hx⟩, -⟩ := hg
  change List Int at xs
  have hl := len63 hl
  change xs.length ≤ _ at hl
  change ∀ x ∈ xs, Eng.Good (.int .u8) x at hx
  clear hp
  show vfun tab _ k167 Try.f167 [.sl (.int .u8) xs] [] _
  refine Ev.out ?_
  repeat' (first | ((with_reducible refine Ev.mk ?_); conv => whnf) | (with_reducible refine And.intro ?_ ?_) | (intro h))
  refine LoopVC.on (fun i : Nat => [(3, .i .u64 (numB (xs.take i))), (8, .i .i64 i)]) (fun _ => []) (fun i => i ≤ xs.length) (fun i => xs.length - i) 0 rfl (by omega) ?_
  intro i hi
  repeat' (first | ((with_reducible refine Ev.mk ?_); conv => whnf) | (with_reducible refine And.intro ?_ ?_) | (intro h))
  all_goals (try simp only [decide_eq_true_eq, decide_eq_false_iff_not, beq_iff_eq, bne_iff_ne, beq_eq_false_iff_ne, bne_eq_false_iff_eq, Int.toNat_natCast, ge_iff_le, gt_iff_lt, Bool.not_eq_true', Bool.not_eq_false', Int.not_lt, Int.not_le, ne_eq] at *)
  all_goals (try dsimp only [Ty.den, Ty.dflt, BT] at *)
  all_goals (try simp only [eq4, ne4, eq3, ne3, eq2, ne2, Prod.eta, List.length_cons, List.length_nil, List.length_append, Nat.zero_add] at *)
  all_goals (try simp (disch := omega) only [wrap64] at *)
  all_goals try first | exact leafDraw (by kernel_rfl) | exact Leaf.mk trivial | (refine Leaf.mk ?_; omega) | (refine Leaf.mk ?_; unfold maxLen; omega)
  · refine Leaf.mk ⟨i + 1, ?_, by omega, by omega⟩
    have hb := byte_at hx (i := i) (by omega)
    rw [numB_at (by omega), ← or_byte hb]; rfl
  · rw [take_all (by omega)]; exact Leaf.mk (ret1 rfl)
def sLow : PSpec := sNumber
theorem fLow : FnOk Try.prog 168 := ⟨_, Try.func168, by decide, rfl⟩
theorem pLow : PSound Try.prog 168 sLow := by
  refine psound (T := tab) (S := (spOf [])) (keep := k168) (by kernel_rfl) tabOk spNil (by kernel_rfl) Try.func168 (by kernel_rfl) (by decide) fun xs hg hp => ?_
  obtain ⟨xs, ⟨⟩⟩ := xs
  obtain ⟨⟨hl, hx⟩, -⟩ := hg
  change List Int at xs
  have hl := len63 hl
  change xs.length ≤ _ at hl
  change ∀ x ∈ xs, Eng.Good (.int .u8) x at hx
  clear hp
  show vfun tab _ k168 Try.f168 [.sl (.int .u8) xs] [] _
  refine Ev.out ?_
  repeat' (first | ((with_reducible refine Ev.mk ?_); conv => whnf) | (with_reducible refine And.intro ?_ ?_) | (intro h))
  refine LoopVC.on (fun i : Nat => [(3, .i .u64 (numB (xs.take i))), (4, .i .i64 i)]) (fun _ => []) (fun i => i ≤ xs.length) (fun i => xs.length - i) 0 rfl (by omega) ?_
  intro i hi
  repeat' (first | ((with_reducible refine Ev.mk ?_); conv => whnf) | (with_reducible refine And.intro ?_ ?_) | (intro h))
  all_goals (try simp only [decide_eq_true_eq, decide_eq_false_iff_not, beq_iff_eq, bne_iff_ne, beq_eq_false_iff_ne, bne_eq_false_iff_eq, Int.toNat_natCast, ge_iff_le, gt_iff_lt, Bool.not_eq_true', Bool.not_eq_false', Int.not_lt, Int.not_le, ne_eq] at *)
  all_goals (try dsimp only [Ty.den, Ty.dflt, BT] at *)
  all_goals (try simp only [eq4, ne4, eq3, ne3, eq2, ne2, Prod.eta, List.length_cons, List.length_nil, List.length_append, Nat.zero_add] at *)
  all_goals (try simp (disch := omega) only [wrap64] at *)
  all_goals try first | exact leafDraw (by kernel_rfl) | exact Leaf.mk trivial | (refine Leaf.mk ?_; omega) | (refine Leaf.mk ?_; unfold maxLen; omega)
  · refine Leaf.mk ⟨i + 1, ?_, by omega, by omega⟩
    have hb := byte_at hx (i := i) (by omega)
    rw [numB_at (by omega)]
    simp only [wrapU64]
    rw [show (256 * numB (xs.take i) % 18446744073709551616 + xs.getD i 0 % 18446744073709551616) % 18446744073709551616 = (numB (xs.take i) * 256 + xs.getD i 0) % 18446744073709551616 by omega]
    rfl
  · rw [take_all (by omega)]; exact Leaf.mk (ret1 rfl)
def layB : Int → Nat → List Int
  | _, 0 => []
  | n, k + 1 => layB (n / 256) k ++ [n % 256]
theorem layB_len : ∀ (k : Nat) (n : Int), (layB n k).length = k
  | 0, n => rfl
  | k + 1, n => by simp [layB, layB_len k]
theorem layB_top : ∀ (k : Nat) (n : Int), layB n (k + 1) = (n / 256 ^ k % 256) :: layB n k
  | 0, n => by simp [layB]
  | k + 1, n => by
    rw [layB, layB_top k (n / 256), layB]
    simp only [List.cons_append]
    rw [Int.ediv_ediv_of_nonneg (by decide), Int.pow_succ, Int.mul_comm]
def sLay : PSpec := ⟨[.d (.int .u64), .d (.int .i64)], [⟨false, [.d BT]⟩], fun x => 0 ≤ x.2.1 ∧ x.2.1 ≤ 8, fun x => ((layB x.1 x.2.1.toNat, ()), ())⟩
theorem fLay : FnOk Try.prog 126 := ⟨_, Try.func126, by decide, rfl⟩
theorem pLay : PSound Try.prog 126 sLay := by
  refine psound (T := tab) (S := (spOf [])) (keep := k126) (by kernel_rfl) tabOk spNil (by kernel_rfl) Try.func126 (by kernel_rfl) (by decide) fun xs hg hp => ?_
  obtain ⟨n, k, ⟨⟩⟩ := xs
  obtain ⟨hn, -⟩ := hg
  change Int at n
  change Int at k
  have hn := bdu64 hn
  change 0 ≤ n ∧ n ≤ _ at hn
  change 0 ≤ k ∧ k ≤ 8 at hp
  show vfun tab _ k126 Try.f126 [.i .u64 n, .i .i64 k] [] _
  refine Ev.out ?_
  repeat' (first | ((with_reducible refine Ev.mk ?_); conv => whnf) | (with_reducible refine And.intro ?_ ?_) | (intro h))
  all_goals (try simp only [decide_eq_true_eq, decide_eq_false_iff_not, beq_iff_eq, bne_iff_ne, beq_eq_false_iff_ne, bne_eq_false_iff_eq, Int.toNat_natCast, ge_iff_le, gt_iff_lt, Bool.not_eq_true', Bool.not_eq_false', Int.not_lt, Int.not_le, ne_eq] at *)
  all_goals (try dsimp only [Ty.den, Ty.dflt, BT] at *)
  all_goals (try simp only [eq4, ne4, eq3, ne3, eq2, ne2, Prod.eta, List.length_cons, List.length_nil, List.length_append, Nat.zero_add] at *)
  all_goals (try simp (disch := omega) only [wrap64] at *)
  all_goals try first | exact leafDraw (by kernel_rfl) | exact Leaf.mk trivial | (refine Leaf.mk ?_; omega) | (refine Leaf.mk ?_; unfold maxLen; omega)
  refine LoopVC.on (fun i : Nat => [(10, .i .i64 i)]) (fun i => [(0, .arr 5 (.int .u8) (List.replicate (k.toNat - i) 0 ++ layB n i))]) (fun i => (i : Int) ≤ k) (fun i => k.toNat - i) 0 ?_ (by simp; omega) ?_
  · simp only [layB, List.append_nil, Nat.sub_zero]; rfl
  intro i hi
  repeat' (first | ((with_reducible refine Ev.mk ?_); conv => whnf) | (with_reducible refine And.intro ?_ ?_) | (intro h))
  all_goals (try simp only [decide_eq_true_eq, decide_eq_false_iff_not, beq_iff_eq, bne_iff_ne, beq_eq_false_iff_ne, bne_eq_false_iff_eq, Int.toNat_natCast, ge_iff_le, gt_iff_lt, Bool.not_eq_true', Bool.not_eq_false', Int.not_lt, Int.not_le, ne_eq] at *)
  all_goals (try dsimp only [Ty.den, Ty.dflt, BT] at *)
  all_goals (try simp only [eq4, ne4, eq3, ne3, eq2, ne2, Prod.eta, List.length_cons, List.length_nil, List.length_append, Nat.zero_add] at *)
  all_goals (try simp (disch := omega) only [wrap64] at *)
  all_goals try first | exact leafDraw (by kernel_rfl) | exact Leaf.mk trivial | (refine Leaf.mk ?_; omega) | (refine Leaf.mk ?_; unfold maxLen; omega)
  all_goals (try simp only [List.length_replicate, layB_len])
  all_goals try (refine Leaf.mk ?_; omega)
  · refine Leaf.mk ?_
    rw [shr8 n (by omega)]
    have := div256_bd hn i
    simp only [inK, Bool.and_eq_true, decide_eq_true_eq]; exact this
  · refine Leaf.mk ⟨i + 1, ?_, by omega, by omega⟩
    rw [shr8 n (by omega), wrapU8, layB_top]
    obtain ⟨m, hm⟩ : ∃ m, k.toNat - i = m + 1 := ⟨k.toNat - i - 1, by omega⟩
    rw [hm, show k.toNat - (i + 1) = m by omega, show (k - 1 - (i : Int)).toNat = m by omega]
    rw [show List.replicate (m + 1) (0 : Int) = List.replicate m 0 ++ [0] from List.replicate_succ', List.append_assoc, List.set_append_right _ _ (by simp)]
    simp only [List.length_replicate, Nat.sub_self, List.cons_append, List.nil_append, List.set_cons_zero]
    rfl
  · refine Leaf.mk (ret1 (show _ = layB n k.toNat from ?_))
    rw [show k.toNat - i = 0 by omega, show i = k.toNat by omega]; simp
def sHigh : PSpec := sLay
theorem fHigh : FnOk Try.prog 127 := ⟨_, Try.func127, by decide, rfl⟩
theorem pHigh : PSound Try.prog 127 sHigh := by
  refine psound (T := tab) (S := (spOf [])) (keep := k127) (by kernel_rfl) tabOk spNil (by kernel_rfl) Try.func127 (by kernel_rfl) (by decide) fun xs hg hp => ?_
  obtain ⟨n, k, ⟨⟩⟩ := xs
  obtain ⟨hn, -⟩ := hg
  change Int at n
  change Int at k
  have hn := bdu64 hn
  change 0 ≤ n ∧ n ≤ _ at hn
  change 0 ≤ k ∧ k ≤ 8 at hp
  show vfun tab _ k127 Try.f127 [.i .u64 n, .i .i64 k] [] _
  refine Ev.out ?_
  repeat' (first | ((with_reducible refine Ev.mk ?_); conv => whnf) | (with_reducible refine And.intro ?_ ?_) | (intro h))
  all_goals (try simp only [decide_eq_true_eq, decide_eq_false_iff_not, beq_iff_eq, bne_iff_ne, beq_eq_false_iff_ne, bne_eq_false_iff_eq, Int.toNat_natCast, ge_iff_le, gt_iff_lt, Bool.not_eq_true', Bool.not_eq_false', Int.not_lt, Int.not_le, ne_eq] at *)
  all_goals (try dsimp only [Ty.den, Ty.dflt, BT] at *)
  all_goals (try simp only [eq4, ne4, eq3, ne3, eq2, ne2, Prod.eta, List.length_cons, List.length_nil, List.length_append, Nat.zero_add] at *)
  all_goals (try simp (disch := omega) only [wrap64] at *)
  all_goals try first | exact leafDraw (by kernel_rfl) | exact Leaf.mk trivial | (refine Leaf.mk ?_; omega) | (refine Leaf.mk ?_; unfold maxLen; omega)
  refine LoopVC.weak [(.slot 5, .nil 5 (.int .u8))] (fun i : Nat => [(6, .i .i64 i), (0, .i .u64 (n / 256 ^ i))]) (fun i => [(0, .arr 5 (.int .u8) (layB n i))]) (fun i => (i : Int) ≤ k) (fun i => k.toNat - i) 0 (Ev.mk ?_)
  (conv => whnf)
  refine ⟨Leaf.mk ?_, Leaf.mk ?_, ?_⟩
  · rw [Int.pow_zero, Int.ediv_one]; rfl
  · simp; omega
  intro i hi
  have hd := div256_bd hn i
  repeat' (first | ((with_reducible refine Ev.mk ?_); conv => whnf) | (with_reducible refine And.intro ?_ ?_) | (intro h))
  all_goals (try simp only [decide_eq_true_eq, decide_eq_false_iff_not, beq_iff_eq, bne_iff_ne, beq_eq_false_iff_ne, bne_eq_false_iff_eq, Int.toNat_natCast, ge_iff_le, gt_iff_lt, Bool.not_eq_true', Bool.not_eq_false', Int.not_lt, Int.not_le, ne_eq] at *)
  all_goals (try dsimp only [Ty.den, Ty.dflt, BT] at *)
  all_goals (try simp only [eq4, ne4, eq3, ne3, eq2, ne2, Prod.eta, List.length_cons, List.length_nil, List.length_append, Nat.zero_add] at *)
  all_goals (try simp (disch := omega) only [wrap64] at *)
  all_goals (try simp only [layB_len, tmodP hd.1, tdivP hd.1] at *)
  all_goals try first | exact leafDraw (by kernel_rfl) | exact Leaf.mk trivial | (refine Leaf.mk ?_; omega) | (refine Leaf.mk ?_; unfold maxLen; omega)
  · refine Leaf.mk ?_
    simp only [inK, Bool.and_eq_true, decide_eq_true_eq]; omega
  · refine Leaf.mk ⟨i + 1, ?_, by omega, by omega⟩
    rw [layB_top, wrapU64, wrapU8, Int.emod_emod_of_dvd _ (by decide : (256 : Int) ∣ 256)]
    rw [show n / 256 ^ i / 256 % 18446744073709551616 = n / 256 ^ (i + 1) by rw [Int.pow_succ, ← Int.ediv_ediv_of_nonneg (Int.le_of_lt (Int.pow_pos (by decide)))]; omega]
    rfl
  · refine Leaf.mk (ret1 (show _ = layB n k.toNat from ?_))
    rw [show i = k.toNat by omega]
def widthN : Nat → Int → Nat
  | 0, _ => 0
  | f + 1, n => if 0 < n then widthN f (n / 256) + 1 else 0
theorem widthN_le : ∀ (f : Nat) (n : Int), widthN f n ≤ f
  | 0, _ => Nat.le_refl _
  | f + 1, n => by unfold widthN; split; have := widthN_le f (n / 256); omega; omega
theorem widthN_more : ∀ (f : Nat) (n : Int), 0 ≤ n → n < 256 ^ f → widthN (f + 1) n = widthN f n
  | 0, n, h0, h1 => by
    simp only [Int.pow_zero] at h1
    simp only [widthN]; rw [if_neg (by omega)]
  | f + 1, n, h0, h1 => by
    rw [widthN]
    conv => rhs; rw [widthN]
    split
    · rw [widthN_more f (n / 256) (by omega) (by rw [Int.pow_succ] at h1; omega)]
    · rfl
def sWidth : PSpec := ⟨[.d (.int .u64)], [⟨false, [.d (.int .i64)]⟩], fun _ => True, fun x => (((widthN 8 x.1 : Nat), ()), ())⟩
theorem fWidth : FnOk Try.prog 125 := ⟨_, Try.func125, by decide, rfl⟩
theorem pWidth : PSound Try.prog 125 sWidth := by
  refine psound (T := tab) (S := (spOf [])) (keep := k125) (by kernel_rfl) tabOk spNil (by kernel_rfl) Try.func125 (by kernel_rfl) (by decide) fun xs hg hp => ?_
  obtain ⟨n, ⟨⟩⟩ := xs
  obtain ⟨hn, -⟩ := hg
  change Int at n
  have hn := bdu64 hn
  change 0 ≤ n ∧ n ≤ _ at hn
  clear hp
  show vfun tab _ k125 Try.f125 [.i .u64 n] [] _
  refine Ev.out ?_
  repeat' (first | ((with_reducible refine Ev.mk ?_); conv => whnf) | (with_reducible refine And.intro ?_ ?_) | (intro h))
  refine LoopVC.on (fun a : Nat × Int => [(0, .i .u64 a.2), (3, .i .i64 a.1)]) (fun _ => []) (fun a => a.1 ≤ 8 ∧ (0 ≤ a.2 ∧ a.2 ≤ 18446744073709551615) ∧ a.2 < 256 ^ (8 - a.1) ∧ widthN 8 n = a.1 + widthN (8 - a.1) a.2) (fun a => 8 - a.1) (0, n) rfl ?_ ?_
  · refine ⟨by omega, hn, ?_, by simp⟩
    show n < 256 ^ 8
    omega
  intro ⟨k, m⟩ ⟨h1, h2, h3, h4⟩
  dsimp only at h1 h2 h3 h4
  repeat' (first | ((with_reducible refine Ev.mk ?_); conv => whnf) | (with_reducible refine And.intro ?_ ?_) | (intro h))
  all_goals (try simp only [decide_eq_true_eq, decide_eq_false_iff_not, beq_iff_eq, bne_iff_ne, beq_eq_false_iff_ne, bne_eq_false_iff_eq, Int.toNat_natCast, ge_iff_le, gt_iff_lt, Bool.not_eq_true', Bool.not_eq_false', Int.not_lt, Int.not_le, ne_eq] at *)
  all_goals (try dsimp only [Ty.den, Ty.dflt, BT] at *)
  all_goals (try simp only [eq4, ne4, eq3, ne3, eq2, ne2, Prod.eta, List.length_cons, List.length_nil, List.length_append, Nat.zero_add] at *)
  all_goals (try simp (disch := omega) only [wrap64] at *)
  all_goals try first | exact leafDraw (by kernel_rfl) | exact Leaf.mk trivial | (refine Leaf.mk ?_; omega) | (refine Leaf.mk ?_; unfold maxLen; omega)
  all_goals (try rw [shrB])
  · refine Leaf.mk ?_
    simp only [inK, Bool.and_eq_true, decide_eq_true_eq]; omega
  · obtain ⟨j, hj⟩ : ∃ j, 8 - k = j + 1 := by
      refine ⟨8 - k - 1, ?_⟩
      rcases Nat.lt_or_ge k 8 with h8 | h8
      · omega
      · rw [show 8 - k = 0 by omega] at h3
        simp only [Int.pow_zero] at h3
        omega
    rw [hj] at h3 h4
    refine Leaf.mk ⟨(k + 1, m / 256), rfl, ⟨by omega, by dsimp only; omega, ?_, ?_⟩, by dsimp only; omega⟩
    · dsimp only
      rw [show 8 - (k + 1) = j by omega]
      rw [Int.pow_succ] at h3
      exact Int.ediv_lt_of_lt_mul (by decide) h3
    · dsimp only
      rw [h4, widthN, if_pos h, show 8 - (k + 1) = j by omega]; omega
  · refine Leaf.mk (ret1 (show (k : Int) = (widthN 8 n : Nat) from ?_))
    have : m = 0 := by omega
    subst this
    have h0 : ∀ f, widthN f 0 = 0 := fun f => by cases f <;> simp [widthN]
    rw [h4, h0]; rfl
end Go.Proofs.Ytoedpnniaikfbaa
