import Derived.Test.YtjifalccioebnaaEng4
import Derived.Test.YtjifalccioebnaaEng5
import Derived.Test.YtjifalccioebnaaTab
import Derived.Test.YtjifalccioebnaaEng3
/- Texts, one behind the other. -/
set_option linter.unusedVariables false
set_option linter.unusedSimpArgs false
set_option maxRecDepth 8000
set_option maxHeartbeats 4000000
namespace Go.Proofs.Ytjifalccioebnaa
open Go.Eng
def cstep {α : Type} [DecidableEq α] (acc : List α) (x : α) : List α := if acc.getLast? = some x then acc else acc ++ [x]
def compL {α : Type} [DecidableEq α] (l : List α) : List α := l.foldl cstep []
section
variable {α : Type} [DecidableEq α]
theorem compL_snoc (l : List α) (x : α) : compL (l ++ [x]) = cstep (compL l) x := by rw [compL, List.foldl_append]; rfl
theorem compL_rev : ∀ (n : Nat) (l : List α), l.length = n → (compL l).getLast? = l.getLast? ∧ (compL l).length ≤ l.length
  | 0, l, h => by rw [List.eq_nil_of_length_eq_zero h]; exact ⟨rfl, Nat.le_refl _⟩
  | n + 1, l, h => by
    have hne : l ≠ [] := by rintro rfl; simp at h
    rw [← List.dropLast_concat_getLast hne]
    have h3 : l.dropLast.length = l.length - 1 := List.length_dropLast
    have ih := compL_rev n l.dropLast (by omega)
    rw [compL_snoc, cstep]
    split
    · rename_i hs
      rw [hs, List.length_append]; exact ⟨by simp, by have := ih.2; simp; omega⟩
    · rw [List.length_append, List.length_append]; exact ⟨by simp, by have := ih.2; simp; omega⟩
theorem compL_last (l : List α) : (compL l).getLast? = l.getLast? := (compL_rev _ l rfl).1
theorem compL_step (d : α) {xs : List α} {n : Nat} (h1 : 1 ≤ n) (h : n < xs.length) : compL (xs.take (n + 1)) = if xs.getD (n - 1) d = xs.getD n d then compL (xs.take n) else compL (xs.take n) ++ [xs.getD n d] := by
  rw [take_at d h, compL_snoc, cstep, compL_last]
  have e : (xs.take n).getLast? = some (xs.getD (n - 1) d) := by
    rw [List.getLast?_eq_getElem?, List.length_take, Nat.min_eq_left (by omega), List.getElem?_take, if_pos (by omega), List.getElem?_eq_getElem (by omega)]
    simp [List.getD, show n - 1 < xs.length by omega]
  rw [e]
  simp only [Option.some.injEq]
theorem compL_eq (d : α) {xs : List α} {n : Nat} (h1 : 1 ≤ n) (h : n < xs.length) (he : xs.getD n d = xs.getD (n - 1) d) : compL (xs.take (n + 1)) = compL (xs.take n) := by
  rw [compL_step d h1 h, if_pos he.symm]
theorem compL_ne (d : α) {xs : List α} {n : Nat} (h1 : 1 ≤ n) (h : n < xs.length) (he : ¬ xs.getD n d = xs.getD (n - 1) d) : compL (xs.take (n + 1)) = compL (xs.take n) ++ [xs.getD n d] := by
  rw [compL_step d h1 h, if_neg (fun hc => he hc.symm)]
end
structure CF {α : Type} [DecidableEq α] (xs : List α) (k : Nat) (zs : List (Option α)) (i j : Nat) : Prop where
  len : zs.length = xs.length + k
  cnt : i = (compL (xs.take j)).length
  lt : i < j
  le : j ≤ xs.length
  front : zs.take i = (compL (xs.take j)).map some
  rest : zs.drop (j - 1) = (xs.map some ++ List.replicate k none).drop (j - 1)
section
variable {α : Type} [DecidableEq α] {xs : List α} {k : Nat} {zs : List (Option α)} {i j : Nat}
theorem CF.get (q : CF xs k zs i j) (d : α) {m : Nat} (h : j - 1 ≤ m) (h2 : m < xs.length) : zs.getD m none = some (xs.getD m d) := by
  rw [← raw_getD (k := k) d h2, List.getD_eq_getElem?_getD, List.getD_eq_getElem?_getD]
  have := congrArg (·[m - (j - 1)]?) q.rest
  simp only [List.getElem?_drop, show j - 1 + (m - (j - 1)) = m by omega] at this
  rw [this]
theorem CF.first (d : α) {n : Nat} (h1 : 1 ≤ n) (h : n < xs.length) (hc : compL (xs.take n) = xs.take n) (he : xs.getD n d = xs.getD (n - 1) d) : CF xs k (xs.map some ++ List.replicate k none) n (n + 1) := by
  have e : compL (xs.take (n + 1)) = xs.take n := by rw [compL_eq d h1 h he, hc]
  exact ⟨by simp, by rw [e, List.length_take]; omega, by omega, by omega, by rw [e, raw_take (by omega)], rfl⟩
theorem CF.same (q : CF xs k zs i j) (d : α) (h : j < xs.length) (he : xs.getD j d = xs.getD (j - 1) d) : CF xs k zs i (j + 1) := by
  have hlt := q.lt
  have e : compL (xs.take (j + 1)) = compL (xs.take j) := compL_eq d (by omega) h he
  refine ⟨q.len, by rw [e]; exact q.cnt, by omega, by omega, by rw [e]; exact q.front, ?_⟩
  have := congrArg (List.drop 1) q.rest
  simp only [List.drop_drop] at this
  rw [show j - 1 + 1 = j by omega] at this
  rw [Nat.add_sub_cancel]; exact this
theorem CF.new (q : CF xs k zs i j) (d : α) (h : j < xs.length) (he : ¬ xs.getD j d = xs.getD (j - 1) d) : CF xs k (zs.set i (some (xs.getD j d))) (i + 1) (j + 1) := by
  have hlt := q.lt
  have e : compL (xs.take (j + 1)) = compL (xs.take j) ++ [xs.getD j d] := compL_ne d (by omega) h he
  have hl := q.len
  refine ⟨by rw [List.length_set]; exact hl, by rw [e, List.length_append, ← q.cnt]; rfl, by omega, by omega, ?_, ?_⟩
  · rw [e, List.map_append, ← q.front, take_at none (by rw [List.length_set]; omega), List.take_set_of_le (Nat.le_refl _)]
    congr 1
    rw [List.getD_eq_getElem?_getD, List.getElem?_set_self (by omega)]; rfl
  · have := congrArg (List.drop 1) q.rest
    simp only [List.drop_drop] at this
    rw [show j - 1 + 1 = j by omega] at this
    rw [Nat.add_sub_cancel, List.drop_set_of_lt (by omega)]; exact this
theorem CF.fin (q : CF xs k zs i xs.length) : zs.take i = (compL xs).map some := by
  have := q.front
  rwa [take_all (Nat.le_refl _)] at this
end
end Go.Proofs.Ytjifalccioebnaa

set_option linter.unusedVariables false
set_option linter.unusedSimpArgs false
namespace Go.Proofs.Ytjifalccioebnaa
open Go.Eng
abbrev BT : Ty := .slice (.int .u8)
theorem pXIndexByte : XOk Try.prog 96 xIndexByte := xIndexByte_ok Try.func96 (by kernel_rfl) (by kernel_rfl) (by kernel_rfl) (by kernel_rfl)
def sBClone : PSpec := ⟨[.d BT], [⟨false, [.d BT]⟩], fun x => x.1.length ≤ 1000000, fun x => ((x.1, ()), ())⟩
theorem fBClone : FnOk Try.prog 75 := ⟨_, Try.func75, by decide, rfl⟩
theorem pBClone : PSound Try.prog 75 sBClone := by
  refine psound (T := tab) (S := (spOf [])) (keep := k75) (by kernel_rfl) tabOk spNil (by kernel_rfl) Try.func75 (by kernel_rfl) (by decide) fun xs hg hp => ?_
  obtain ⟨xs, ⟨⟩⟩ := xs
  obtain ⟨⟨hl, -⟩, -⟩ := hg
  change List Int at xs
  clear hl
  change xs.length ≤ 1000000 at hp
  show vfun tab _ k75 Try.f75 [.sl (.int .u8) xs] [] _
  refine Ev.out ?_
  repeat' (first | ((with_reducible refine Ev.mk ?_); conv => whnf) | (with_reducible refine And.intro ?_ ?_) | (intro h))
  all_goals (try simp only [decide_eq_true_eq, decide_eq_false_iff_not, beq_iff_eq, bne_iff_ne, beq_eq_false_iff_ne, bne_eq_false_iff_eq, Int.toNat_natCast, ge_iff_le, gt_iff_lt, Bool.not_eq_true', Bool.not_eq_false', Int.not_lt, Int.not_le, ne_eq] at *)
  all_goals (try dsimp only [Ty.den, Ty.dflt, BT] at *)
  all_goals (try simp only [eq4, ne4, eq3, ne3, eq2, ne2, Prod.eta, List.length_cons, List.length_nil, List.length_append, Nat.zero_add] at *)
  all_goals (try simp (disch := omega) only [wrap64] at *)
  all_goals try first | exact leafDraw (by kernel_rfl) | exact Leaf.mk trivial | (refine Leaf.mk ?_; omega) | (refine Leaf.mk ?_; unfold maxLen; omega)
  · refine Leaf.mk (ret1 (show ([] : List Int) = xs from ?_))
    exact (List.eq_nil_of_length_eq_zero h).symm
  · exact Leaf.mk (ret1 rfl)
def sIndexByte : PSpec := ⟨[.d BT, .d (.int .u8)], [⟨false, [.d (.int .i64)]⟩], fun _ => True, fun x => ((Lib.indexByte (strOfBytes x.1) x.2.1.toNat.toUInt8, ()), ())⟩
theorem fIndexByte : FnOk Try.prog 91 := ⟨_, Try.func91, by decide, rfl⟩
theorem pIndexByte : PSound Try.prog 91 sIndexByte := by
  refine psound (T := tab) (S := (spOf [(96, xIndexByte)])) (keep := k91) (by kernel_rfl) tabOk (spCons (.inr pXIndexByte) spNil) (by kernel_rfl) Try.func91 (by kernel_rfl) (by decide) fun xs hg hp => ?_
  obtain ⟨xs, c, ⟨⟩⟩ := xs
  show vfun tab _ k91 Try.f91 [.sl (.int .u8) xs, .i .u8 c] [] _
  refine Ev.out ?_
  repeat' (first | ((with_reducible refine Ev.mk ?_); conv => whnf) | (with_reducible refine And.intro ?_ ?_) | (intro h))
  exact Leaf.mk rfl
def escI (c : Int) : List Int := if c = 0 then [0, 255] else [c]
def putB (xs : List Int) : List Int := xs.flatMap escI ++ [0, 1]
def putText (s : List UInt8) : List Int := putB (bytesOfStr s)
theorem escI_len (xs : List Int) : (xs.flatMap escI).length ≤ 2 * xs.length := by
  induction xs with
  | nil => simp
  | cons x r ih =>
    simp only [List.flatMap_cons, List.length_append, List.length_cons]
    have : (escI x).length ≤ 2 := by unfold escI; split <;> simp
    omega
def sPutText : PSpec := ⟨[.d .str], [⟨false, [.o 5 (.int .u8)]⟩], fun x => x.1.length ≤ 100000, fun x => ((putText x.1, ()), ())⟩
theorem fPutText : FnOk Try.prog 72 := ⟨_, Try.func72, by decide, rfl⟩
theorem pPutText : PSound Try.prog 72 sPutText := by
  refine psound (T := tab) (S := (spOf [])) (keep := k72) (by kernel_rfl) tabOk spNil (by kernel_rfl) Try.func72 (by kernel_rfl) (by decide) fun xs hg hp => ?_
  obtain ⟨s, ⟨⟩⟩ := xs
  change List UInt8 at s
  change s.length ≤ 100000 at hp
  have hb : (bytesOfStr s).length = s.length := by simp [bytesOfStr]
  have hpt : putText s = putB (bytesOfStr s) := rfl
  show vfun tab _ k72 Try.f72 [.s s] [] _
  refine Ev.out ?_
  repeat' (first | ((with_reducible refine Ev.mk ?_); conv => whnf) | (with_reducible refine And.intro ?_ ?_) | (intro h))
  all_goals (try simp only [decide_eq_true_eq, decide_eq_false_iff_not, beq_iff_eq, bne_iff_ne, beq_eq_false_iff_ne, bne_eq_false_iff_eq, Int.toNat_natCast, ge_iff_le, gt_iff_lt, Bool.not_eq_true', Bool.not_eq_false', Int.not_lt, Int.not_le, ne_eq] at *)
  all_goals (try dsimp only [Ty.den, Ty.dflt, BT] at *)
  all_goals (try simp only [eq4, ne4, eq3, ne3, eq2, ne2, Prod.eta, List.length_cons, List.length_nil, List.length_append, Nat.zero_add] at *)
  all_goals (try simp (disch := omega) only [wrap64] at *)
  all_goals try first | exact leafDraw (by kernel_rfl) | exact Leaf.mk trivial | (refine Leaf.mk ?_; omega) | (refine Leaf.mk ?_; unfold maxLen; omega)
  refine LoopVC.weak [(.slot 3, .nil 5 (.int .u8))] (fun i : Nat => [(9, .i .i64 i)]) (fun i => [(0, .arr 5 (.int .u8) (((bytesOfStr s).take i).flatMap escI))]) (fun i => i ≤ (bytesOfStr s).length) (fun i => (bytesOfStr s).length - i) 0 (Ev.mk ?_)
  (conv => whnf)
  refine ⟨Leaf.mk rfl, Leaf.mk ?_, ?_⟩
  · omega
  intro i hi
  have hc := escI_len ((bytesOfStr s).take i)
  rw [List.length_take] at hc
  repeat' (first | ((with_reducible refine Ev.mk ?_); conv => whnf) | (with_reducible refine And.intro ?_ ?_) | (intro h))
  all_goals (try simp only [decide_eq_true_eq, decide_eq_false_iff_not, beq_iff_eq, bne_iff_ne, beq_eq_false_iff_ne, bne_eq_false_iff_eq, Int.toNat_natCast, ge_iff_le, gt_iff_lt, Bool.not_eq_true', Bool.not_eq_false', Int.not_lt, Int.not_le, ne_eq] at *)
  all_goals (try dsimp only [Ty.den, Ty.dflt, BT] at *)
  all_goals (try simp only [eq4, ne4, eq3, ne3, eq2, ne2, Prod.eta, List.length_cons, List.length_nil, List.length_append, Nat.zero_add] at *)
  all_goals (try simp (disch := omega) only [wrap64] at *)
  all_goals try first | exact leafDraw (by kernel_rfl) | exact Leaf.mk trivial | (refine Leaf.mk ?_; omega) | (refine Leaf.mk ?_; unfold maxLen; omega)
  all_goals first
    | (rw [take_all (by omega)]; exact Leaf.mk (ret1 rfl))
    | (refine Leaf.mk ⟨i + 1, ?_, by omega, by omega⟩
       rw [flatMap_at 0 (by omega)]
       first
       | (rw [show escI ((bytesOfStr s).getD i 0) = [0, 255] from if_pos (by assumption)]; have h7 : (bytesOfStr s).getD i 0 = 0 := by assumption
          rw [h7]; simp only [List.append_assoc, List.cons_append, List.nil_append]; rfl)
       | (rw [show escI ((bytesOfStr s).getD i 0) = [(bytesOfStr s).getD i 0] from if_neg (by assumption)]; rfl))
def numB (xs : List Int) : Int := xs.foldl (fun n c => (n * 256 + c) % 18446744073709551616) 0
theorem numB_bd (xs : List Int) : 0 ≤ numB xs ∧ numB xs ≤ 18446744073709551615 := by
  have : ∀ (l : List Int) (n : Int), 0 ≤ n ∧ n ≤ 18446744073709551615 → 0 ≤ l.foldl (fun n c => (n * 256 + c) % 18446744073709551616) n ∧ l.foldl (fun n c => (n * 256 + c) % 18446744073709551616) n ≤ 18446744073709551615 := by
    intro l
    induction l with
    | nil => intro n h; exact h
    | cons x r ih => intro n h; refine ih _ ?_; dsimp only; omega
  exact this xs 0 (by omega)
theorem numB_at {xs : List Int} {i : Nat} (h : i < xs.length) : numB (xs.take (i + 1)) = (numB (xs.take i) * 256 + xs.getD i 0) % 18446744073709551616 := by
  unfold numB; rw [foldl_at 0 h]
theorem byte_at {xs : List Int} (hx : ∀ x ∈ xs, Eng.Good (.int .u8) x) {i : Nat} (h : i < xs.length) : 0 ≤ xs.getD i 0 ∧ xs.getD i 0 ≤ 255 := bdu8 (good_at (e := .int .u8) hx h 0)
def sNumber : PSpec := ⟨[.d BT], [⟨false, [.d (.int .u64)]⟩], fun _ => True, fun x => ((numB x.1, ()), ())⟩
theorem fNumber : FnOk Try.prog 90 := ⟨_, Try.func90, by decide, rfl⟩
theorem pNumber : PSound Try.prog 90 sNumber := by
  refine psound (T := tab) (S := (spOf [])) (keep := k90) (by kernel_rfl) tabOk spNil (by kernel_rfl) Try.func90 (by kernel_rfl) (by decide) fun xs hg hp => ?_
  obtain ⟨xs, ⟨⟩⟩ := xs
  obtain ⟨⟨hl, hx⟩, -⟩ := hg
  change List Int at xs
  have hl := len63 hl
  change xs.length ≤ _ at hl
  change ∀ x ∈ xs, Eng.Good (.int .u8) x at hx
  clear hp
  show vfun tab _ k90 Try.f90 [.sl (.int .u8) xs] [] _
  refine Ev.out ?_
  repeat' (first | ((with_reducible refine Ev.mk ?_); conv => whnf) | (with_reducible refine And.intro ?_ ?_) | (intro h))
  refine LoopVC.on (fun i : Nat => [(3, .i .u64 (numB (xs.take i))), (8, .i .i64 i)]) (fun _ => []) (fun i => i ≤ xs.length) (fun i => xs.length - i) 0 rfl (by omega) ?_
  intro i hi
  repeat' (first | ((with_reducible refine Ev.mk ?_); conv => whnf) | (with_reducible refine And.intro ?_ ?_) | (intro h))
  all_goals (try simp only [decide_eq_true_eq, decide_eq_false_iff_not, beq_iff_eq, bne_iff_ne, beq_eq_false_iff_ne, bne_eq_false_iff_eq, Int.toNat_natCast, ge_iff_le, gt_iff_lt, Bool.not_eq_true', Bool.not_eq_false', Int.not_lt, Int.not_le, ne_eq] at *)
  all_goals (try dsimp only [Ty.den, Ty.dflt, BT] at *)
  all_goals (try simp only [eq4, ne4, eq3, ne3, eq2, ne2, Prod.eta, List.length_cons, List.length_nil, List.length_append, Nat.zero_add] at *)
  all_goals (try simp (disch := omega) only [wrap64] at *)
  all_goals try first | exact leafDraw (by kernel_rfl) | exact Leaf.mk trivial | (refine Leaf.mk ?_; omega) | (refine Leaf.mk ?_; unfold maxLen; omega)
  · refine Leaf.mk ⟨i + 1, ?_, by omega, by omega⟩
    have hb := byte_at hx (i := i) (by omega)
    rw [numB_at (by omega), ← or_byte hb]; rfl
  · rw [take_all (by omega)]; exact Leaf.mk (ret1 rfl)
def layB : Int → Nat → List Int
  | _, 0 => []
  | n, k + 1 => layB (n / 256) k ++ [n % 256]
theorem layB_len : ∀ (k : Nat) (n : Int), (layB n k).length = k
  | 0, n => rfl
  | k + 1, n => by simp [layB, layB_len k]
theorem layB_top : ∀ (k : Nat) (n : Int), layB n (k + 1) = (n / 256 ^ k % 256) :: layB n k
  | 0, n => by simp [layB]
  | k + 1, n => by
    rw [layB, layB_top k (n / 256), layB]
    simp only [List.cons_append]
    rw [Int.ediv_ediv_of_nonneg (by decide), Int.pow_succ, Int.mul_comm]
def sLay : PSpec := ⟨[.d (.int .u64), .d (.int .i64)], [⟨false, [.d BT]⟩], fun x => 0 ≤ x.2.1 ∧ x.2.1 ≤ 8, fun x => ((layB x.1 x.2.1.toNat, ()), ())⟩
theorem fLay : FnOk Try.prog 87 := ⟨_, Try.func87, by decide, rfl⟩
theorem pLay : PSound Try.prog 87 sLay := by
  refine psound (T := tab) (S := (spOf [])) (keep := k87) (by kernel_rfl) tabOk spNil (by kernel_rfl) Try.func87 (by kernel_rfl) (by decide) fun xs hg hp => ?_
  obtain ⟨n, k, ⟨⟩⟩ := xs
  obtain ⟨hn, -⟩ := hg
  change Int at n
  change Int at k
  have hn := bdu64 hn
  change 0 ≤ n ∧ n ≤ _ at hn
  change 0 ≤ k ∧ k ≤ 8 at hp
  show vfun tab _ k87 Try.f87 [.i .u64 n, .i .i64 k] [] _
  refine Ev.out ?_
  repeat' (first | ((with_reducible refine Ev.mk ?_); conv => whnf) | (with_reducible refine And.intro ?_ ?_) | (intro h))
  all_goals (try simp only [decide_eq_true_eq, decide_eq_false_iff_not, beq_iff_eq, bne_iff_ne, beq_eq_false_iff_ne, bne_eq_false_iff_eq, Int.toNat_natCast, ge_iff_le, gt_iff_lt, Bool.not_eq_true', Bool.not_eq_false', Int.not_lt, Int.not_le, ne_eq] at *)
  all_goals (try dsimp only [Ty.den, Ty.dflt, BT] at *)
  all_goals (try simp only [eq4, ne4, eq3, ne3, eq2, ne2, Prod.eta, List.length_cons, List.length_nil, List.length_append, Nat.zero_add] at *)
  all_goals (try simp (disch := omega) only [wrap64] at *)
  all_goals try first | exact leafDraw (by kernel_rfl) | exact Leaf.mk trivial | (refine Leaf.mk ?_; omega) | (refine Leaf.mk ?_; unfold maxLen; omega)
  refine LoopVC.on (fun i : Nat => [(10, .i .i64 i)]) (fun i => [(0, .arr 5 (.int .u8) (List.replicate (k.toNat - i) 0 ++ layB n i))]) (fun i => (i : Int) ≤ k) (fun i => k.toNat - i) 0 ?_ (by simp; omega) ?_
  · simp only [layB, List.append_nil, Nat.sub_zero]; rfl
  intro i hi
  repeat' (first | ((with_reducible refine Ev.mk ?_); conv => whnf) | (with_reducible refine And.intro ?_ ?_) | (intro h))
  all_goals (try simp only [decide_eq_true_eq, decide_eq_false_iff_not, beq_iff_eq, bne_iff_ne, beq_eq_false_iff_ne, bne_eq_false_iff_eq, Int.toNat_natCast, ge_iff_le, gt_iff_lt, Bool.not_eq_true', Bool.not_eq_false', Int.not_lt, Int.not_le, ne_eq] at *)
  all_goals (try dsimp only [Ty.den, Ty.dflt, BT] at *)
  all_goals (try simp only [eq4, ne4, eq3, ne3, eq2, ne2, Prod.eta, List.length_cons, List.length_nil, List.length_append, Nat.zero_add] at *)
  all_goals (try simp (disch := omega) only [wrap64] at *)
  all_goals try first | exact leafDraw (by kernel_rfl) | exact Leaf.mk trivial | (refine Leaf.mk ?_; omega) | (refine Leaf.mk ?_; unfold maxLen; omega)
  all_goals (try simp only [List.length_replicate, layB_len])
  all_goals try (refine Leaf.mk ?_; omega)
  · refine Leaf.mk ?_
    rw [shr8 n (by omega)]
    have := div256_bd hn i
    simp only [inK, Bool.and_eq_true, decide_eq_true_eq]; exact this
  · refine Leaf.mk ⟨i + 1, ?_, by omega, by omega⟩
    rw [shr8 n (by omega), wrapU8, layB_top]
    obtain ⟨m, hm⟩ : ∃ m, k.toNat - i = m + 1 := ⟨k.toNat - i - 1, by omega⟩
    rw [hm, show k.toNat - (i + 1) = m by omega, show (k - 1 - (i : Int)).toNat = m by omega]
    rw [show List.replicate (m + 1) (0 : Int) = List.replicate m 0 ++ [0] from List.replicate_succ', List.append_assoc, List.set_append_right _ _ (by simp)]
    simp only [List.length_replicate, Nat.sub_self, List.cons_append, List.nil_append, List.set_cons_zero]
    rfl
  · refine Leaf.mk (ret1 (show _ = layB n k.toNat from ?_))
    rw [show k.toNat - i = 0 by omega, show i = k.toNat by omega]; simp
def widthN : Nat → Int → Nat
  | 0, _ => 0
  | f + 1, n => if 0 < n then widthN f (n / 256) + 1 else 0
theorem widthN_le : ∀ (f : Nat) (n : Int), widthN f n ≤ f
  | 0, _ => Nat.le_refl _
  | f + 1, n => by unfold widthN; split; have := widthN_le f (n / 256); omega; omega
def sWidth : PSpec := ⟨[.d (.int .u64)], [⟨false, [.d (.int .i64)]⟩], fun _ => True, fun x => (((widthN 8 x.1 : Nat), ()), ())⟩
theorem fWidth : FnOk Try.prog 86 := ⟨_, Try.func86, by decide, rfl⟩
theorem pWidth : PSound Try.prog 86 sWidth := by
  refine psound (T := tab) (S := (spOf [])) (keep := k86) (by kernel_rfl) tabOk spNil (by kernel_rfl) Try.func86 (by kernel_rfl) (by decide) fun xs hg hp => ?_
  obtain ⟨n, ⟨⟩⟩ := xs
  obtain ⟨hn, -⟩ := hg
  change Int at n
  have hn := bdu64 hn
  change 0 ≤ n ∧ n ≤ _ at hn
  clear hp
  show vfun tab _ k86 Try.f86 [.i .u64 n] [] _
  refine Ev.out ?_
  repeat' (first | ((with_reducible refine Ev.mk ?_); conv => whnf) | (with_reducible refine And.intro ?_ ?_) | (intro h))
  refine LoopVC.on (fun a : Nat × Int => [(0, .i .u64 a.2), (3, .i .i64 a.1)]) (fun _ => []) (fun a => a.1 ≤ 8 ∧ (0 ≤ a.2 ∧ a.2 ≤ 18446744073709551615) ∧ a.2 < 256 ^ (8 - a.1) ∧ widthN 8 n = a.1 + widthN (8 - a.1) a.2) (fun a => 8 - a.1) (0, n) rfl ?_ ?_
  · refine ⟨by omega, hn, ?_, by simp⟩
    show n < 256 ^ 8
    omega
  intro ⟨k, m⟩ ⟨h1, h2, h3, h4⟩
  dsimp only at h1 h2 h3 h4
  repeat' (first | ((with_reducible refine Ev.mk ?_); conv => whnf) | (with_reducible refine And.intro ?_ ?_) | (intro h))
  all_goals (try simp only [decide_eq_true_eq, decide_eq_false_iff_not, beq_iff_eq, bne_iff_ne, beq_eq_false_iff_ne, bne_eq_false_iff_eq, Int.toNat_natCast, ge_iff_le, gt_iff_lt, Bool.not_eq_true', Bool.not_eq_false', Int.not_lt, Int.not_le, ne_eq] at *)
  all_goals (try dsimp only [Ty.den, Ty.dflt, BT] at *)
  all_goals (try simp only [eq4, ne4, eq3, ne3, eq2, ne2, Prod.eta, List.length_cons, List.length_nil, List.length_append, Nat.zero_add] at *)
  all_goals (try simp (disch := omega) only [wrap64] at *)
  all_goals try first | exact leafDraw (by kernel_rfl) | exact Leaf.mk trivial | (refine Leaf.mk ?_; omega) | (refine Leaf.mk ?_; unfold maxLen; omega)
  all_goals (try rw [shrB])
  · refine Leaf.mk ?_
    simp only [inK, Bool.and_eq_true, decide_eq_true_eq]; omega
  · obtain ⟨j, hj⟩ : ∃ j, 8 - k = j + 1 := by
      refine ⟨8 - k - 1, ?_⟩
      rcases Nat.lt_or_ge k 8 with h8 | h8
      · omega
      · rw [show 8 - k = 0 by omega] at h3
        simp only [Int.pow_zero] at h3
        omega
    rw [hj] at h3 h4
    refine Leaf.mk ⟨(k + 1, m / 256), rfl, ⟨by omega, by dsimp only; omega, ?_, ?_⟩, by dsimp only; omega⟩
    · dsimp only
      rw [show 8 - (k + 1) = j by omega]
      rw [Int.pow_succ] at h3
      exact Int.ediv_lt_of_lt_mul (by decide) h3
    · dsimp only
      rw [h4, widthN, if_pos h, show 8 - (k + 1) = j by omega]; omega
  · refine Leaf.mk (ret1 (show (k : Int) = (widthN 8 n : Nat) from ?_))
    have : m = 0 := by omega
    subst this
    have h0 : ∀ f, widthN f 0 = 0 := fun f => by cases f <;> simp [widthN]
    rw [h4, h0]; rfl
end Go.Proofs.Ytjifalccioebnaa

set_option linter.unusedVariables false
set_option linter.unusedSimpArgs false
namespace Go.Proofs.Ytjifalccioebnaa
open Go.Eng
theorem byte0 {xs : List Int} (hx : ∀ x ∈ xs, Eng.Good (.int .u8) x) (i : Nat) : 0 ≤ xs.getD i 0 ∧ xs.getD i 0 ≤ 255 := by
  rcases Nat.lt_or_ge i xs.length with h | h
  · exact bdu8 (good_at (e := .int .u8) hx h 0)
  · rw [List.getD_eq_getElem?_getD, List.getElem?_eq_none h]; decide
def putSmall (n : Int) : List Int := ((widthN 8 n : Nat) : Int) :: layB n (widthN 8 n)
def sPutSmall : PSpec := ⟨[.d (.int .u64)], [⟨false, [.o 5 (.int .u8)]⟩], fun _ => True, fun x => ((putSmall x.1, ()), ())⟩
theorem fPutSmall : FnOk Try.prog 71 := ⟨_, Try.func71, by decide, rfl⟩
theorem pPutSmall : PSound Try.prog 71 sPutSmall := by
  refine psound (T := tab) (S := (spOf [(86, sWidth.spec (lsOf [])), (87, sLay.spec (lsOf []))])) (keep := k71) (by kernel_rfl) tabOk (spCons (pOk pWidth fWidth (by decide) lsNil) (spCons (pOk pLay fLay (by decide) lsNil) spNil)) (by kernel_rfl) Try.func71 (by kernel_rfl) (by decide) fun xs hg hp => ?_
  obtain ⟨n, ⟨⟩⟩ := xs
  obtain ⟨hn, -⟩ := hg
  change Int at n
  have hn := bdu64 hn
  change 0 ≤ n ∧ n ≤ _ at hn
  have hw := widthN_le 8 n
  clear hp
  show vfun tab _ k71 Try.f71 [.i .u64 n] [] _
  refine Ev.out ?_
  repeat' (first | ((with_reducible refine Ev.mk ?_); conv => whnf) | (with_reducible refine And.intro ?_ ?_) | (intro h))
  all_goals (try simp only [decide_eq_true_eq, decide_eq_false_iff_not, beq_iff_eq, bne_iff_ne, beq_eq_false_iff_ne, bne_eq_false_iff_eq, Int.toNat_natCast, ge_iff_le, gt_iff_lt, Bool.not_eq_true', Bool.not_eq_false', Int.not_lt, Int.not_le, ne_eq] at *)
  all_goals (try dsimp only [Ty.den, Ty.dflt, BT, sWidth, sLay] at *)
  all_goals (try simp only [eq4, ne4, eq3, ne3, eq2, ne2, Prod.eta, List.length_cons, List.length_nil, List.length_append, Nat.zero_add] at *)
  all_goals (try simp (disch := omega) only [wrap64] at *)
  all_goals (try simp only [layB_len, Int.toNat_natCast] at *)
  all_goals try first | exact leafDraw (by kernel_rfl) | exact Leaf.mk trivial | (refine Leaf.mk ?_; omega) | (refine Leaf.mk ?_; unfold maxLen; omega)
  · exact Leaf.mk (show (0 : Int) ≤ ((widthN 8 n : Nat) : Int) ∧ ((widthN 8 n : Nat) : Int) ≤ 8 by omega)
  · refine Leaf.mk (ret1 (show [IntKind.u8.wrap ((widthN 8 n : Nat) : Int)] ++ layB n (((widthN 8 n : Nat) : Int)).toNat = putSmall n from ?_))
    rw [wrapU8, putSmall, Int.toNat_natCast]
    rw [show ((widthN 8 n : Nat) : Int) % 256 = ((widthN 8 n : Nat) : Int) by omega]; rfl
def getSmall (b : List Int) : Int × Int × Int :=
  if b.length = 0 then (0, 0, 3) else if 8 < b.getD 0 0 then (0, 0, 4) else if (b.length : Int) ≤ b.getD 0 0 then (0, 0, 3) else if 0 < b.getD 0 0 ∧ b.getD 1 0 = 0 then (0, 0, 4)
  else (numB ((b.take (b.getD 0 0 + 1).toNat).drop 1), b.getD 0 0 + 1, 0)
def sGetSmall : PSpec := ⟨[.d BT], [⟨false, [.d (.int .u64)]⟩, ⟨false, [.d (.int .i64)]⟩, ⟨false, [.d (.int .i64)]⟩], fun _ => True, fun x => (((getSmall x.1).1, ()), ((getSmall x.1).2.1, ()), ((getSmall x.1).2.2, ()), ())⟩
theorem fGetSmall : FnOk Try.prog 77 := ⟨_, Try.func77, by decide, rfl⟩
theorem pGetSmall : PSound Try.prog 77 sGetSmall := by
  refine psound (T := tab) (S := (spOf [(90, sNumber.spec (lsOf []))])) (keep := k77) (by kernel_rfl) tabOk (spCons (pOk pNumber fNumber (by decide) lsNil) spNil) (by kernel_rfl) Try.func77 (by kernel_rfl) (by decide) fun xs hg hp => ?_
  obtain ⟨xs, ⟨⟩⟩ := xs
  obtain ⟨⟨hl, hx⟩, -⟩ := hg
  change List Int at xs
  have hl := len63 hl
  change xs.length ≤ _ at hl
  change ∀ x ∈ xs, Eng.Good (.int .u8) x at hx
  clear hp
  have hb0 := byte0 hx 0
  show vfun tab _ k77 Try.f77 [.sl (.int .u8) xs] [] _
  refine Ev.out ?_
  repeat' (first | ((with_reducible refine Ev.mk ?_); conv => whnf) | (with_reducible refine And.intro ?_ ?_) | (intro h))
  all_goals (try simp only [decide_eq_true_eq, decide_eq_false_iff_not, beq_iff_eq, bne_iff_ne, beq_eq_false_iff_ne, bne_eq_false_iff_eq, Int.toNat_natCast, ge_iff_le, gt_iff_lt, Bool.not_eq_true', Bool.not_eq_false', Int.not_lt, Int.not_le, ne_eq] at *)
  all_goals (try dsimp only [Ty.den, Ty.dflt, BT, sNumber] at *)
  all_goals (try simp only [eq4, ne4, eq3, ne3, eq2, ne2, Prod.eta, List.length_cons, List.length_nil, List.length_append, Nat.zero_add] at *)
  all_goals (try simp (disch := omega) only [wrap64] at *)
  all_goals (try simp only [Int.reduceToNat] at *)
  all_goals (try simp (disch := omega) only [wrap64] at *)
  all_goals try first | exact leafDraw (by kernel_rfl) | exact Leaf.mk trivial | (refine Leaf.mk ?_; omega) | (refine Leaf.mk ?_; unfold maxLen; omega)
  all_goals clear hx
  all_goals (try (refine Leaf.mk ?_; omega))
  all_goals (refine Leaf.mk (ret3 ?_ ?_ ?_) <;> (dsimp only; rw [getSmall]; repeat (first | rw [if_pos (by omega)] | rw [if_neg (by omega)])))
  all_goals (dsimp only; rw [Int.add_comm])
end Go.Proofs.Ytjifalccioebnaa

set_option linter.unusedVariables false
set_option linter.unusedSimpArgs false
set_option maxRecDepth 8000
namespace Go.Proofs.Ytjifalccioebnaa
open Go.Eng
theorem flat_at {α : Type} {xs : List (List α)} {i : Nat} (h : i < xs.length) : (xs.take (i + 1)).flatten = (xs.take i).flatten ++ xs.getD i [] := by
  rw [take_at [] h, List.flatten_append]; simp
theorem flat_le {α : Type} {xs : List (List α)} (i : Nat) : (xs.take i).flatten.length ≤ xs.flatten.length := by
  conv => rhs; rw [← List.take_append_drop i xs]
  rw [List.flatten_append, List.length_append]; omega
theorem flat_get {α : Type} {xs : List (List α)} {i : Nat} (h : i < xs.length) : (xs.take i).flatten.length + (xs.getD i []).length ≤ xs.flatten.length := by
  have := flat_le (xs := xs) (i + 1)
  rw [flat_at h, List.length_append] at this; exact this
theorem fGrowB : FnOk Try.prog 88 := ⟨_, Try.func88, by decide, rfl⟩
noncomputable def iGrowB : Eng.Spec := inl tab (spOf []) k88 Try.f88
theorem pGrowB : SpecOk Try.prog 88 iGrowB := inl_ok tabOk spNil (by kernel_rfl) Try.func88 (by kernel_rfl)
end Go.Proofs.Ytjifalccioebnaa

set_option linter.unusedVariables false
set_option linter.unusedSimpArgs false
namespace Go.Proofs.Ytjifalccioebnaa
open Go.Eng
theorem take_set (xs : List Int) {m : Nat} (h : m < xs.length) (v : Int) : (xs.take (m + 1)).set m v = xs.take m ++ [v] := by
  rw [List.take_succ_eq_append_getElem h, List.set_append_right _ _ (by simp; omega)]
  simp [List.length_take, Nat.min_eq_left (Nat.le_of_lt h)]
end Go.Proofs.Ytjifalccioebnaa

set_option linter.unusedVariables false
set_option linter.unusedSimpArgs false
namespace Go.Proofs.Ytjifalccioebnaa
open Go.Eng
def txt : List Int → List Int → Nat → List Int × Int × Int
  | [], _, _ => ([], 0, 3)
  | c :: r, acc, p => if c = 0 then match r with
      | [] => ([], 0, 3)
      | d :: t => if d = 1 then (acc, ((p + 2 : Nat) : Int), 0) else if d = 255 then txt t (acc ++ [0]) (p + 2) else ([], 0, 4)
    else txt r (acc ++ [c]) (p + 1)
theorem txt_ne {c : Int} (h : ¬ c = 0) (r acc : List Int) (p : Nat) : txt (c :: r) acc p = txt r (acc ++ [c]) (p + 1) := by
  conv => lhs; rw [txt.eq_def]
  exact if_neg h
theorem txt_end {c : Int} (h : c = 0) (acc : List Int) (p : Nat) : txt [c] acc p = ([], 0, 3) := by
  conv => lhs; rw [txt.eq_def]
  exact if_pos h
theorem txt_esc {c : Int} (h : c = 0) (d : Int) (t acc : List Int) (p : Nat) : txt (c :: d :: t) acc p = if d = 1 then (acc, ((p + 2 : Nat) : Int), 0) else if d = 255 then txt t (acc ++ [0]) (p + 2) else ([], 0, 4) := by
  conv => lhs; rw [txt.eq_def]
  exact if_pos h
theorem byte_mem {xs : List Int} (hx : ∀ x ∈ xs, Eng.Good (.int .u8) x) {x : Int} (h : x ∈ xs) : 0 ≤ x ∧ x ≤ 255 := bdu8 (hx x h)
theorem byte_eq {c : Int} (h : 0 ≤ c ∧ c ≤ 255) : (UInt8.ofNat c.toNat == Nat.toUInt8 0) = decide (c = 0) := by
  obtain ⟨n, rfl⟩ := Int.eq_ofNat_of_zero_le h.1
  have h2 : n ≤ 255 := by omega
  clear h
  have : ∀ m : Fin 256, (UInt8.ofNat ((m.val : Nat) : Int).toNat == Nat.toUInt8 0) = decide (((m.val : Nat) : Int) = 0) := by decide +kernel
  exact this ⟨n, by omega⟩
theorem idx_out : ∀ (r : List Int), (∀ x ∈ r, 0 ≤ x ∧ x ≤ 255) →
    (Lib.indexByte (strOfBytes r) (Nat.toUInt8 0) = -1 ∧ ∀ acc p, txt r acc p = ([], 0, 3)) ∨
    (∃ k : Nat, Lib.indexByte (strOfBytes r) (Nat.toUInt8 0) = k ∧ k < r.length ∧ r.getD k 0 = 0 ∧ ∀ acc p, txt r acc p = txt (r.drop k) (acc ++ r.take k) (p + k))
  | [], _ => .inl ⟨rfl, fun acc p => rfl⟩
  | c :: r, h => by
    have hc := byte_eq (h c (by simp))
    have ih := idx_out r (fun x hx => h x (by simp [hx]))
    have e : Lib.indexByte (strOfBytes (c :: r)) (Nat.toUInt8 0) = if c = 0 then 0 else if Lib.indexByte (strOfBytes r) (Nat.toUInt8 0) == -1 then -1 else Lib.indexByte (strOfBytes r) (Nat.toUInt8 0) + 1 := by
      show (if (UInt8.ofNat c.toNat == Nat.toUInt8 0) = true then _ else _) = _
      rw [hc]
      simp only [decide_eq_true_eq]
      rfl
    rw [e]
    by_cases h0 : c = 0
    · rw [if_pos h0]
      exact .inr ⟨0, rfl, by simp, h0, fun acc p => by simp⟩
    · rw [if_neg h0]
      rcases ih with ⟨h1, h2⟩ | ⟨k, h1, h2, h3, h4⟩
      · rw [h1]
        exact .inl ⟨rfl, fun acc p => by rw [txt_ne h0, h2]⟩
      · rw [h1]
        refine .inr ⟨k + 1, ?_, by simpa using h2, by simpa using h3, fun acc p => ?_⟩
        · rw [if_neg (by simp)]; first | rfl | omega
        · rw [txt_ne h0, h4]
          simp only [List.drop_succ_cons, List.take_succ_cons, List.append_assoc, List.singleton_append]
          rw [show p + 1 + k = p + (k + 1) by omega]
theorem tn2 (i k : Nat) : ((i : Int) + (k : Int)).toNat = i + k := by omega
theorem tn3 (i k : Nat) : ((i : Int) + ((k : Int) + 2) - 1).toNat = i + k + 1 := by omega
theorem idx_xs {xs : List Int} (hx : ∀ x ∈ xs, 0 ≤ x ∧ x ≤ 255) {i : Nat} (hi : i ≤ xs.length) :
    (Lib.indexByte (strOfBytes (xs.drop i)) (Nat.toUInt8 0) = -1 ∧ ∀ acc p, txt (xs.drop i) acc p = ([], 0, 3)) ∨
    (∃ k : Nat, Lib.indexByte (strOfBytes (xs.drop i)) (Nat.toUInt8 0) = k ∧ i + k < xs.length ∧ xs.getD (i + k) 0 = 0 ∧ ((xs.take (i + k)).drop i).length = k ∧ ∀ acc p, txt (xs.drop i) acc p = txt (xs.drop (i + k)) (acc ++ (xs.take (i + k)).drop i) (p + k)) := by
  rcases idx_out (xs.drop i) (fun x h => hx x (List.mem_of_mem_drop h)) with h | ⟨k, h1, h2, h3, h4⟩
  · exact .inl h
  · rw [List.length_drop] at h2
    refine .inr ⟨k, h1, by omega, ?_, by rw [List.length_drop, List.length_take]; omega, fun acc p => ?_⟩
    · rw [List.getD_eq_getElem?_getD, List.getElem?_drop] at h3
      rw [List.getD_eq_getElem?_getD]; exact h3
    · rw [h4, List.drop_drop, List.drop_take, Nat.add_sub_cancel_left]
def getText (xs : List Int) : List UInt8 × Int × Int := (strOfBytes (txt xs [] 0).1, (txt xs [] 0).2.1, (txt xs [] 0).2.2)
def sGetText : PSpec := ⟨[.d BT], [⟨false, [.d .str]⟩, ⟨false, [.d (.int .i64)]⟩, ⟨false, [.d (.int .i64)]⟩], fun x => x.1.length ≤ 100000, fun x => (((getText x.1).1, ()), ((getText x.1).2.1, ()), ((getText x.1).2.2, ()), ())⟩
theorem fGetText : FnOk Try.prog 78 := ⟨_, Try.func78, by decide, rfl⟩
theorem pGetText : PSound Try.prog 78 sGetText := by
  refine psound (T := tab) (S := (spOf [(91, sIndexByte.spec (lsOf []))])) (keep := k78) (by kernel_rfl) tabOk (spCons (pOk pIndexByte fIndexByte (by decide) lsNil) spNil) (by kernel_rfl) Try.func78 (by kernel_rfl) (by decide) fun xs hg hp => ?_
  obtain ⟨xs, ⟨⟩⟩ := xs
  obtain ⟨⟨hl, hx⟩, -⟩ := hg
  change List Int at xs
  clear hl
  change xs.length ≤ 100000 at hp
  change ∀ x ∈ xs, Eng.Good (.int .u8) x at hx
  show vfun tab _ k78 Try.f78 [.sl (.int .u8) xs] [] _
  refine Ev.out ?_
  repeat' (first | ((with_reducible refine Ev.mk ?_); conv => whnf) | (with_reducible refine And.intro ?_ ?_) | (intro h))
  all_goals (try simp only [decide_eq_true_eq, decide_eq_false_iff_not, beq_iff_eq, bne_iff_ne, beq_eq_false_iff_ne, bne_eq_false_iff_eq, Int.toNat_natCast, ge_iff_le, gt_iff_lt, Bool.not_eq_true', Bool.not_eq_false', Int.not_lt, Int.not_le, ne_eq] at *)
  all_goals (try dsimp only [Ty.den, Ty.dflt, BT] at *)
  all_goals (try simp only [eq4, ne4, eq3, ne3, eq2, ne2, Prod.eta, List.length_cons, List.length_nil, List.length_append, Nat.zero_add] at *)
  all_goals (try simp (disch := omega) only [wrap64] at *)
  all_goals try first | exact leafDraw (by kernel_rfl) | exact Leaf.mk trivial | (refine Leaf.mk ?_; omega) | (refine Leaf.mk ?_; unfold maxLen; omega)
  refine LoopVC.weak [(.slot 5, .nil 5 (.int .u8))] (fun a : Nat × List Int => [(6, .i .i64 a.1)]) (fun a => [(0, .arr 5 (.int .u8) a.2)]) (fun a => a.1 ≤ xs.length ∧ a.2.length ≤ a.1 ∧ txt xs [] 0 = txt (xs.drop a.1) a.2 a.1) (fun a => xs.length - a.1) (0, []) (Ev.mk ?_)
  (conv => whnf)
  refine ⟨Leaf.mk ?_, Leaf.mk ?_, ?_⟩
  · rfl
  · exact ⟨by omega, by simp, rfl⟩
  intro ⟨i, acc⟩ ⟨hi, ha, ht⟩
  dsimp only at hi ha ht
  have hk := idx_xs (fun x h => byte_mem hx h) hi
  repeat' (first | ((with_reducible refine Ev.mk ?_); conv => whnf) | (with_reducible refine And.intro ?_ ?_) | (intro h))
  all_goals (try dsimp only [sIndexByte] at *)
  all_goals (try simp only [Int.reduceToNat, Int.toNat_natCast, List.take_length] at *)
  all_goals (rcases hk with ⟨k1, k2⟩ | ⟨k, k1, k2, k3, k5, k4⟩ <;> simp only [k1] at *)
  all_goals (try simp only [decide_eq_true_eq, decide_eq_false_iff_not, beq_iff_eq, bne_iff_ne, beq_eq_false_iff_ne, bne_eq_false_iff_eq, Int.toNat_natCast, ge_iff_le, gt_iff_lt, Bool.not_eq_true', Bool.not_eq_false', Int.not_lt, Int.not_le, ne_eq] at *)
  all_goals (try dsimp only [Ty.den, Ty.dflt, BT, sIndexByte] at *)
  all_goals (try simp only [eq4, ne4, eq3, ne3, eq2, ne2, Prod.eta, List.length_cons, List.length_nil, List.length_append, Nat.zero_add] at *)
  all_goals (try simp (disch := omega) only [wrap64] at *)
  all_goals (try simp only [tn2, tn3] at *)
  all_goals try first | exact leafDraw (by kernel_rfl) | exact Leaf.mk trivial | (refine Leaf.mk ?_; omega) | (refine Leaf.mk ?_; unfold maxLen; omega)
  · rw [k2] at ht
    refine Leaf.mk (ret3 ?_ ?_ ?_) <;> (dsimp only [getText]; rw [ht]) <;> rfl
  · rw [k4, drop_at 0 (by omega), List.drop_eq_nil_of_le (by omega), txt_end k3] at ht
    refine Leaf.mk (ret3 ?_ ?_ ?_) <;> (dsimp only [getText]; rw [ht]) <;> rfl
  all_goals (try (refine Leaf.mk ?_; rw [k5]; first | omega | (unfold maxLen; omega)))
  · rw [k4, drop_at 0 (by omega), drop_at 0 (show i + k + 1 < xs.length by omega), txt_esc k3, if_pos h] at ht
    refine Leaf.mk (ret3 ?_ ?_ ?_) <;> (dsimp only [getText]; rw [ht]) <;> first | rfl | (dsimp only; omega)
  · rename_i hn
    rw [k4, drop_at 0 (by omega), drop_at 0 (show i + k + 1 < xs.length by omega), txt_esc k3, if_neg hn, if_pos h] at ht
    refine Leaf.mk ⟨(i + k + 2, acc ++ (xs.take (i + k)).drop i ++ [0]), ?_, ⟨by dsimp only; omega, by dsimp only; simp only [List.length_append, k5, List.length_singleton]; omega, ht⟩, by dsimp only; omega⟩
    rw [show (i : Int) + ((k : Int) + 2) = ((i + k + 2 : Nat) : Int) by omega]; rfl
  · rename_i hn
    rw [k4, drop_at 0 (by omega), drop_at 0 (show i + k + 1 < xs.length by omega), txt_esc k3, if_neg hn, if_neg h] at ht
    refine Leaf.mk (ret3 ?_ ?_ ?_) <;> (dsimp only [getText]; rw [ht]) <;> rfl
  all_goals (rw [List.drop_eq_nil_of_le (by omega)] at ht; refine Leaf.mk (ret3 ?_ ?_ ?_) <;> (dsimp only [getText]; rw [ht]) <;> rfl)
end Go.Proofs.Ytjifalccioebnaa

set_option linter.unusedVariables false
set_option linter.unusedSimpArgs false
namespace Go.Proofs.Ytjifalccioebnaa
open Go.Eng
abbrev RP : List RK := [.d BT, .d (.int .i64)]
def sNew : NSpec := ⟨[.d BT], RP, fun x => x.1.length ≤ 100000, fun x => (x.1, 0, ())⟩
theorem fNew : FnOk Try.prog 46 := ⟨_, Try.func46, by decide, rfl⟩
theorem pNew : NSound Try.prog 46 sNew := by
  refine nsound (T := tab) (S := (spOf [(75, sBClone.spec (lsOf []))])) (keep := k46) (by kernel_rfl) tabOk (spCons (pOk pBClone fBClone (by decide) lsNil) spNil) (by kernel_rfl) Try.func46 rfl (by kernel_rfl) (by decide) fun xs hg hp => ?_
  obtain ⟨xs, ⟨⟩⟩ := xs
  change List Int at xs
  change xs.length ≤ 100000 at hp
  show vfun tab _ k46 Try.f46 [.sl (.int .u8) xs] [] _
  refine Ev.out ?_
  repeat' (first | ((with_reducible refine Ev.mk ?_); conv => whnf) | (with_reducible refine And.intro ?_ ?_) | (intro h))
  all_goals (try simp only [decide_eq_true_eq, decide_eq_false_iff_not, beq_iff_eq, bne_iff_ne, beq_eq_false_iff_ne, bne_eq_false_iff_eq, Int.toNat_natCast, ge_iff_le, gt_iff_lt, Bool.not_eq_true', Bool.not_eq_false', Int.not_lt, Int.not_le, ne_eq] at *)
  all_goals (try dsimp only [Ty.den, Ty.dflt, BT, sBClone] at *)
  all_goals (try simp only [eq4, ne4, eq3, ne3, eq2, ne2, Prod.eta, List.length_cons, List.length_nil, List.length_append, Nat.zero_add] at *)
  all_goals (try simp (disch := omega) only [wrap64] at *)
  all_goals try first | exact leafDraw (by kernel_rfl) | exact Leaf.mk trivial | (refine Leaf.mk ?_; omega) | (refine Leaf.mk ?_; unfold maxLen; omega)
  · exact Leaf.mk rfl
def sState : MSpec := ⟨[.m RP], [⟨false, [.d (.int .i64)]⟩], fun _ => True, fun x => ((x.1.2.1, ()), x.1, ())⟩
theorem fState : FnOk Try.prog 76 := ⟨_, Try.func76, by decide, rfl⟩
theorem pState : SpecOk Try.prog 76 sState.spec := by
  refine mOk (T := tab) (S := (spOf [])) (keep := k76m) tabOk spNil (by kernel_rfl) Try.func76 (by kernel_rfl) (by kernel_rfl) (by decide) fun xs hg hp => ?_
  obtain ⟨⟨b, e, ⟨⟩⟩, ⟨⟩⟩ := xs
  change List Int at b
  change Int at e
  show vfunM tab _ k76m Try.f76 [.ptr 0 0] [(0, .box [.sl (.int .u8) b, .i .i64 e])] _
  refine Ev.out ?_
  repeat' (first | ((with_reducible refine Ev.mk ?_); conv => whnf) | (with_reducible refine And.intro ?_ ?_) | (intro h))
  all_goals exact Leaf.mk rfl
theorem txt_bd : ∀ (n : Nat) (xs acc : List Int) (p : Nat), xs.length ≤ n → 0 ≤ (txt xs acc p).2.1 ∧ (txt xs acc p).2.1 ≤ ((p + xs.length : Nat) : Int)
  | _, [], acc, p, _ => ⟨Int.le_refl _, by show (0 : Int) ≤ _; omega⟩
  | 0, _ :: _, _, _, h => by simp at h
  | n + 1, c :: r, acc, p, h => by
    simp only [List.length_cons] at h
    by_cases hc : c = 0
    · cases r with
      | nil => rw [txt_end hc]; exact ⟨Int.le_refl _, by show (0 : Int) ≤ _; omega⟩
      | cons d t =>
        simp only [List.length_cons] at h
        rw [txt_esc hc]
        split
        · simp only [List.length_cons]; omega
        · split
          · have := txt_bd n t (acc ++ [0]) (p + 2) (by omega)
            simp only [List.length_cons]; omega
          · exact ⟨Int.le_refl _, by show (0 : Int) ≤ _; omega⟩
    · rw [txt_ne hc]
      have := txt_bd n r (acc ++ [c]) (p + 1) (by omega)
      simp only [List.length_cons]; omega
theorem getText_bd (b : List Int) : 0 ≤ (getText b).2.1 ∧ (getText b).2.1 ≤ (b.length : Int) := by
  have := txt_bd b.length b [] 0 (Nat.le_refl _)
  simpa [getText] using this
theorem putR {α : Type} {u v : α × List Int × Int} (h : u = v) : (some ((u.1, ()), (u.2.1, u.2.2, ()), ()) : Option ((α × Unit) × (List Int × Int × Unit) × Unit)) = some ((v.1, ()), (v.2.1, v.2.2, ()), ()) := by rw [h]
theorem getSmall_bd {b : List Int} (hx : ∀ x ∈ b, Eng.Good (.int .u8) x) : (0 ≤ (getSmall b).2.1 ∧ (getSmall b).2.1 ≤ (b.length : Int)) ∧ 0 ≤ (getSmall b).1 := by
  have h0 := byte0 hx 0
  have hn := numB_bd ((b.take (b.getD 0 0 + 1).toNat).drop 1)
  unfold getSmall
  split
  · simp
  · split
    · simp
    · split
      · simp
      · split
        · simp
        · refine ⟨⟨?_, ?_⟩, hn.1⟩ <;> dsimp only <;> omega
def rdText (b : List Int) (e most : Int) : List UInt8 × List Int × Int :=
  if ¬ e = 0 then ([], b, e) else if ¬ (getText b).2.2 = 0 then ([], b, (getText b).2.2)
  else if (if 0 < most then most else 0) < ((getText b).1.length : Int) then ([], b, 5) else ((getText b).1, b.drop (getText b).2.1.toNat, 0)
def sText : MSpec := ⟨[.m RP, .d (.int .i64)], [⟨false, [.d .str]⟩], fun x => x.1.1.length ≤ 100000, fun x => (((rdText x.1.1 x.1.2.1 x.2.1).1, ()), ((rdText x.1.1 x.1.2.1 x.2.1).2.1, (rdText x.1.1 x.1.2.1 x.2.1).2.2, ()), ())⟩
theorem fText : FnOk Try.prog 48 := ⟨_, Try.func48, by decide, rfl⟩
theorem pText : SpecOk Try.prog 48 sText.spec := by
  refine mOk (T := tab) (S := (spOf [(76, sState.spec), (78, sGetText.spec (lsOf []))])) (keep := k48m) tabOk (spCons (.inl ⟨pState, fState⟩) (spCons (pOk pGetText fGetText (by decide) lsNil) spNil)) (by kernel_rfl) Try.func48 (by kernel_rfl) (by kernel_rfl) (by decide) fun xs hg hp => ?_
  obtain ⟨⟨b, e, ⟨⟩⟩, most, ⟨⟩⟩ := xs
  change List Int at b
  change Int at e
  change Int at most
  change b.length ≤ 100000 at hp
  show vfunM tab _ k48m Try.f48 [.ptr 0 0, .i .i64 most] [(0, .box [.sl (.int .u8) b, .i .i64 e])] _
  refine Ev.out ?_
  repeat' (first | ((with_reducible refine Ev.mk ?_); conv => whnf) | (with_reducible refine And.intro ?_ ?_) | (intro h))
  all_goals (try simp only [decide_eq_true_eq, decide_eq_false_iff_not, beq_iff_eq, bne_iff_ne, beq_eq_false_iff_ne, bne_eq_false_iff_eq, Int.toNat_natCast, ge_iff_le, gt_iff_lt, Bool.not_eq_true', Bool.not_eq_false', Int.not_lt, Int.not_le, ne_eq] at *)
  all_goals (try dsimp only [Ty.den, Ty.dflt, BT, sState, sGetText] at *)
  all_goals (try simp only [eq4, ne4, eq3, ne3, eq2, ne2, Prod.eta, List.length_cons, List.length_nil, List.length_append, Nat.zero_add] at *)
  all_goals (try simp (disch := omega) only [wrap64] at *)
  all_goals have hb := getText_bd b
  all_goals try first | exact leafDraw (by kernel_rfl) | exact Leaf.mk trivial | (refine Leaf.mk ?_; omega) | (refine Leaf.mk ?_; unfold maxLen; omega)
  · refine Leaf.mk (putR (u := ([], b, e)) (v := rdText b e most) ?_)
    rw [rdText, if_pos h]
  · rename_i h1 h2 h3
    refine Leaf.mk (putR (u := ([], b, 5)) (v := rdText b e most) ?_)
    rw [rdText, if_neg (fun hh => hh h1), if_neg (fun hh => hh h2), if_pos h3]
  · rename_i h1 h2 h3
    rw [List.take_length]
    refine Leaf.mk (putR (u := ((getText b).1, b.drop (getText b).2.1.toNat, e)) (v := rdText b e most) ?_)
    rw [rdText, if_neg (fun hh => hh h1), if_neg (fun hh => hh h2), if_neg (by omega), h1]
  · rename_i h1 h2
    refine Leaf.mk (putR (u := ([], b, (getText b).2.2)) (v := rdText b e most) ?_)
    rw [rdText, if_neg (fun hh => hh h1), if_pos h2]
def rdSmall (b : List Int) (e : Int) : Int × List Int × Int :=
  if ¬ e = 0 then (0, b, e) else if ¬ (getSmall b).2.2 = 0 then (0, b, (getSmall b).2.2)
  else if 1099511627776 < (getSmall b).1 then (0, b, 9) else ((getSmall b).1, b.drop (getSmall b).2.1.toNat, 0)
def sSmall : MSpec := ⟨[.m RP], [⟨false, [.d (.int .i64)]⟩], fun x => x.1.1.length ≤ 100000, fun x => (((rdSmall x.1.1 x.1.2.1).1, ()), ((rdSmall x.1.1 x.1.2.1).2.1, (rdSmall x.1.1 x.1.2.1).2.2, ()), ())⟩
theorem fSmall : FnOk Try.prog 47 := ⟨_, Try.func47, by decide, rfl⟩
theorem pSmall : SpecOk Try.prog 47 sSmall.spec := by
  refine mOk (T := tab) (S := (spOf [(76, sState.spec), (77, sGetSmall.spec (lsOf []))])) (keep := k47m) tabOk (spCons (.inl ⟨pState, fState⟩) (spCons (pOk pGetSmall fGetSmall (by decide) lsNil) spNil)) (by kernel_rfl) Try.func47 (by kernel_rfl) (by kernel_rfl) (by decide) fun xs hg hp => ?_
  obtain ⟨⟨b, e, ⟨⟩⟩, ⟨⟩⟩ := xs
  change List Int at b
  change Int at e
  change b.length ≤ 100000 at hp
  obtain ⟨⟨⟨hl, hx⟩, -⟩, -⟩ := hg
  clear hl
  change ∀ x ∈ b, Eng.Good (.int .u8) x at hx
  have hb0 := getSmall_bd hx
  clear hx
  show vfunM tab _ k47m Try.f47 [.ptr 0 0] [(0, .box [.sl (.int .u8) b, .i .i64 e])] _
  refine Ev.out ?_
  repeat' (first | ((with_reducible refine Ev.mk ?_); conv => whnf) | (with_reducible refine And.intro ?_ ?_) | (intro h))
  all_goals (try simp only [decide_eq_true_eq, decide_eq_false_iff_not, beq_iff_eq, bne_iff_ne, beq_eq_false_iff_ne, bne_eq_false_iff_eq, Int.toNat_natCast, ge_iff_le, gt_iff_lt, Bool.not_eq_true', Bool.not_eq_false', Int.not_lt, Int.not_le, ne_eq] at *)
  all_goals (try dsimp only [Ty.den, Ty.dflt, BT, sState, sGetSmall] at *)
  all_goals (try simp only [eq4, ne4, eq3, ne3, eq2, ne2, Prod.eta, List.length_cons, List.length_nil, List.length_append, Nat.zero_add] at *)
  all_goals (try simp (disch := omega) only [wrap64] at *)
  all_goals try first | exact leafDraw (by kernel_rfl) | exact Leaf.mk trivial | (refine Leaf.mk ?_; omega) | (refine Leaf.mk ?_; unfold maxLen; omega)
  · refine Leaf.mk (putR (u := (0, b, e)) (v := rdSmall b e) ?_)
    rw [rdSmall, if_pos h]
  · rename_i h1 h2 h3
    refine Leaf.mk (putR (u := (0, b, 9)) (v := rdSmall b e) ?_)
    rw [rdSmall, if_neg (fun hh => hh h1), if_neg (fun hh => hh h2), if_pos h3]
  · rename_i h1 h2 h3
    rw [List.take_length]
    refine Leaf.mk (putR (u := ((getSmall b).1, b.drop (getSmall b).2.1.toNat, e)) (v := rdSmall b e) ?_)
    rw [rdSmall, if_neg (fun hh => hh h1), if_neg (fun hh => hh h2), if_neg (by omega), h1]
  · rename_i h1 h2
    refine Leaf.mk (putR (u := (0, b, (getSmall b).2.2)) (v := rdSmall b e) ?_)
    rw [rdSmall, if_neg (fun hh => hh h1), if_pos h2]
end Go.Proofs.Ytjifalccioebnaa

set_option linter.unusedVariables false
set_option linter.unusedSimpArgs false
namespace Go.Proofs.Ytjifalccioebnaa
open Go.Eng
def isB (xs : List Int) : Prop := ∀ x ∈ xs, 0 ≤ x ∧ x ≤ 255
theorem isB_good {xs : List Int} (h : ∀ x ∈ xs, Eng.Good (.int .u8) x) : isB xs := fun x hx => byte_mem h hx
theorem isB_append {xs ys : List Int} (h : isB xs) (k : isB ys) : isB (xs ++ ys) := fun x hx => (List.mem_append.1 hx).elim (h x) (k x)
theorem isB_take {xs : List Int} (h : isB xs) (n : Nat) : isB (xs.take n) := fun x hx => h x (List.mem_of_mem_take hx)
theorem isB_str (s : List UInt8) : isB (bytesOfStr s) := fun x hx => by
  obtain ⟨c, _, rfl⟩ := List.mem_map.1 hx
  have := c.toNat_lt
  omega
theorem isB_put (s : List UInt8) : isB (putText s) := fun x hx => by
  unfold putText putB at hx
  rcases List.mem_append.1 hx with h | h
  · obtain ⟨c, hc, h⟩ := List.mem_flatMap.1 h
    have := isB_str s c hc
    unfold escI at h
    split at h <;> simp at h <;> omega
  · simp at h; omega
theorem isB_lay : ∀ (k : Nat) (n : Int), isB (layB n k)
  | 0, n => fun x hx => by simp [layB] at hx
  | k + 1, n => by
    rw [layB]
    refine isB_append (isB_lay k _) fun x hx => ?_
    simp at hx; omega
theorem isB_small (n : Int) : isB (putSmall n) := fun x hx => by
  unfold putSmall at hx
  rcases List.mem_cons.1 hx with h | h
  · have := widthN_le 8 n; omega
  · exact isB_lay _ _ x h
theorem str_bytes (s : List UInt8) : strOfBytes (bytesOfStr s) = s := by
  unfold strOfBytes bytesOfStr
  rw [List.map_map]
  conv => rhs; rw [← List.map_id s]
  refine List.map_congr_left fun c _ => ?_
  simp
theorem putB_cons (x : Int) (xs : List Int) : putB (x :: xs) = escI x ++ putB xs := by simp [putB]
end Go.Proofs.Ytjifalccioebnaa

set_option linter.unusedVariables false
set_option linter.unusedSimpArgs false
namespace Go.Proofs.Ytjifalccioebnaa
open Go.Eng
theorem p8 : (256 : Int) ^ 8 = 18446744073709551616 := by decide
theorem widthN_zero : ∀ f, widthN f 0 = 0
  | 0 => rfl
  | f + 1 => by rw [widthN, if_neg (by omega)]
theorem widthN_hi : ∀ (f : Nat) (n : Int), 0 ≤ n → n < 256 ^ f → n < 256 ^ (widthN f n)
  | 0, n, h1, h2 => h2
  | f + 1, n, h1, h2 => by
    rw [Int.pow_succ] at h2
    rw [widthN]
    split
    · have := widthN_hi f (n / 256) (by omega) (Int.ediv_lt_of_lt_mul (by decide) h2)
      rw [Int.pow_succ]; omega
    · rw [Int.pow_zero]; omega
theorem widthN_lo : ∀ (f : Nat) (n : Int), 0 < n → n < 256 ^ f → ∃ w, widthN f n = w + 1 ∧ 256 ^ w ≤ n
  | 0, n, h1, h2 => by rw [Int.pow_zero] at h2; omega
  | f + 1, n, h1, h2 => by
    rw [Int.pow_succ] at h2
    rw [widthN, if_pos h1]
    refine ⟨_, rfl, ?_⟩
    by_cases h0 : n / 256 = 0
    · rw [h0, widthN_zero, Int.pow_zero]; omega
    · obtain ⟨w, hw, hl⟩ := widthN_lo f (n / 256) (by omega) (Int.ediv_lt_of_lt_mul (by decide) h2)
      rw [hw, Int.pow_succ]; omega
theorem txt_put (b : List Int) : ∀ (xs acc : List Int) (p : Nat), txt (putB xs ++ b) acc p = (acc ++ xs, ((p + (putB xs).length : Nat) : Int), 0)
  | [], acc, p => by
    show txt (0 :: 1 :: b) acc p = _
    rw [txt_esc rfl, if_pos rfl, List.append_nil]; rfl
  | x :: xs, acc, p => by
    rw [putB_cons, List.append_assoc]
    unfold escI
    by_cases h : x = 0
    · rw [if_pos h]
      show txt (0 :: 255 :: (putB xs ++ b)) acc p = _
      rw [txt_esc rfl, if_neg (by omega), if_pos rfl, txt_put b xs]
      subst h
      simp only [List.append_assoc, List.cons_append, List.nil_append, List.length_cons]
      congr 3; omega
    · rw [if_neg h]
      show txt (x :: (putB xs ++ b)) acc p = _
      rw [txt_ne h, txt_put b xs]
      simp only [List.append_assoc, List.cons_append, List.nil_append, List.length_cons]
      congr 3; omega
theorem getText_put (s : List UInt8) (b : List Int) : getText (putText s ++ b) = (s, (((putText s).length : Nat) : Int), 0) := by
  unfold getText putText
  rw [txt_put]
  simp [str_bytes]
theorem numB_lay : ∀ (k : Nat) (n : Int), 0 ≤ n → n < 256 ^ k → n ≤ 18446744073709551615 → numB (layB n k) = n
  | 0, n, h1, h2, _ => by rw [Int.pow_zero] at h2; rw [show n = 0 by omega]; rfl
  | k + 1, n, h1, h2, h3 => by
    rw [Int.pow_succ] at h2
    have ih := numB_lay k (n / 256) (by omega) (Int.ediv_lt_of_lt_mul (by decide) h2) (by omega)
    unfold numB at ih ⊢
    rw [layB, List.foldl_append, ih]
    simp only [List.foldl_cons, List.foldl_nil]
    omega
theorem lay_head {n : Int} (hn : 0 < n) (h : n ≤ 18446744073709551615) : ∃ c r w, widthN 8 n = w + 1 ∧ layB n (widthN 8 n) = c :: r ∧ ¬ c = 0 := by
  obtain ⟨w, hw, hl⟩ := widthN_lo 8 n hn (by rw [p8]; omega)
  have hh := widthN_hi 8 n (by omega) (by rw [p8]; omega)
  rw [hw, Int.pow_succ] at hh
  refine ⟨_, _, w, hw, by rw [hw, layB_top], ?_⟩
  have hp : (0 : Int) < 256 ^ w := Int.pow_pos (by decide)
  have h1 : 1 ≤ n / 256 ^ w := by rw [Int.le_ediv_iff_mul_le hp]; omega
  have h2 : n / 256 ^ w < 256 := Int.ediv_lt_of_lt_mul hp (by omega)
  omega
theorem getSmall_put {n : Int} (hn : 0 ≤ n ∧ n ≤ 18446744073709551615) (b : List Int) : getSmall (putSmall n ++ b) = (n, (((putSmall n).length : Nat) : Int), 0) := by
  have hw := widthN_le 8 n
  have hl : (layB n (widthN 8 n)).length = widthN 8 n := layB_len _ _
  have h0 : (putSmall n ++ b).getD 0 0 = ((widthN 8 n : Nat) : Int) := by unfold putSmall; simp
  have hlen : (putSmall n).length = widthN 8 n + 1 := by unfold putSmall; simp [hl]
  have h1 : ¬ (0 < ((widthN 8 n : Nat) : Int) ∧ (putSmall n ++ b).getD 1 0 = 0) := by
    intro ⟨p, q⟩
    have : 0 < n := by
      rcases Int.lt_or_le 0 n with h | h
      · exact h
      · rw [show n = 0 by omega, widthN_zero] at p; omega
    obtain ⟨c, r, w, e1, e2, e3⟩ := lay_head this hn.2
    unfold putSmall at q
    rw [e2] at q
    simp at q
    exact e3 q
  unfold getSmall
  rw [h0, if_neg (by rw [List.length_append]; omega), if_neg (by omega), if_neg (by rw [List.length_append]; omega), if_neg h1]
  rw [show (((widthN 8 n : Nat) : Int) + 1).toNat = (putSmall n).length by omega, List.take_left' rfl]
  have e : (putSmall n).drop 1 = layB n (widthN 8 n) := rfl
  rw [e, numB_lay _ _ hn.1 (widthN_hi 8 n hn.1 (by rw [p8]; omega)) hn.2, hlen]
  rfl
end Go.Proofs.Ytjifalccioebnaa

set_option linter.unusedVariables false
set_option linter.unusedSimpArgs false
namespace Go.Proofs.Ytjifalccioebnaa
open Go.Eng
theorem putText_len (s : List UInt8) : (putText s).length ≤ 2 * s.length + 2 := by
  have := escI_len (bytesOfStr s)
  have e : (bytesOfStr s).length = s.length := by simp [bytesOfStr]
  simp only [putText, putB, List.length_append, List.length_cons, List.length_nil]; omega
theorem putSmall_len (n : Int) : 1 ≤ (putSmall n).length ∧ (putSmall n).length ≤ 9 := by
  have hw := widthN_le 8 n
  have hl : (layB n (widthN 8 n)).length = widthN 8 n := layB_len _ _
  simp only [putSmall, List.length_cons]; omega
theorem bytes_str : ∀ (xs : List Int), isB xs → bytesOfStr (strOfBytes xs) = xs
  | [], _ => rfl
  | x :: r, h => by
    have hx := h x (by simp)
    have ih := bytes_str r (fun z hz => h z (by simp [hz]))
    show ((UInt8.ofNat x.toNat).toNat : Int) :: bytesOfStr (strOfBytes r) = _
    rw [ih, UInt8.toNat_ofNat']
    congr 1; omega
theorem str_inj {xs ys : List Int} (hx : isB xs) (hy : isB ys) (h : strOfBytes xs = strOfBytes ys) : xs = ys := by
  rw [← bytes_str xs hx, h, bytes_str ys hy]
end Go.Proofs.Ytjifalccioebnaa

set_option linter.unusedVariables false
set_option linter.unusedSimpArgs false
namespace Go.Proofs.Ytjifalccioebnaa
open Go.Eng
abbrev VerT : Ty := .pair (.int .i64) (.pair (.int .i64) (.pair .bool .str))
abbrev Ver := Int × Int × Bool × List UInt8
abbrev Stk := List UInt8 × List Ver
def pend (me : Int) (v : Ver) : Bool := decide (v.2.1 = 0 ∧ v.1 = me ∧ 0 ≤ me)
end Go.Proofs.Ytjifalccioebnaa

set_option linter.unusedVariables false
set_option linter.unusedSimpArgs false
namespace Go.Proofs.Ytjifalccioebnaa
open Go.Eng
def roomP (me : Int) (v : Ver) : Bool := (v.2.1 == 0) && (v.1 == me)
def room (s : Stk) (me : Int) : Bool := decide (s.2.length < 8) || s.2.any (roomP me)
def okTs (at' : Int) (v : Ver) : Bool := decide (1 ≤ v.2.1 ∧ v.2.1 ≤ at')
end Go.Proofs.Ytjifalccioebnaa

set_option linter.unusedVariables false
set_option linter.unusedSimpArgs false
namespace Go.Proofs.Ytjifalccioebnaa
open Go.Eng
abbrev ver0 : Ver := (0, 0, false, [])
def inB (n : Int) : Bool := decide (0 ≤ n ∧ n ≤ 1099511627776)
def sIn : PSpec := ⟨[.d (.int .i64)], [⟨false, [.d .bool]⟩], fun _ => True, fun x => ((inB x.1, ()), ())⟩
def ordered1 (v : Ver) : Bool := v.2.1 == 0
def firstZ (xs : List Ver) : Nat := if idxF ordered1 xs 0 < 0 then xs.length else (idxF ordered1 xs 0).toNat
def OrdA (xs : List Ver) (n : Nat) : Prop := ∀ j, j < n → 1 ≤ j → (xs.getD (j - 1) ver0).2.1 ≤ (xs.getD j ver0).2.1
def OrdB : List Ver → List Int → Prop
  | [], _ => True
  | v :: r, l => v.2.1 = 0 ∧ v.1 ∉ l ∧ OrdB r (v.1 :: l)
instance : ∀ (xs : List Ver) (l : List Int), Decidable (OrdB xs l)
  | [], _ => .isTrue trivial
  | v :: r, l => by
    have := instDecidableOrdB r (v.1 :: l)
    unfold OrdB
    exact inferInstance
instance (xs : List Ver) (n : Nat) : Decidable (OrdA xs n) := by unfold OrdA; exact inferInstance
def ordered (xs : List Ver) : Bool := decide (OrdA xs (firstZ xs) ∧ OrdB (xs.drop (firstZ xs)) [])
end Go.Proofs.Ytjifalccioebnaa

set_option linter.unusedVariables false
set_option linter.unusedSimpArgs false
namespace Go.Proofs.Ytjifalccioebnaa
open Go.Eng
def write (s : Stk) (v : Ver) : Stk :=
  if 0 ≤ idxF (roomP v.1) s.2 0 then (s.1, s.2.set (idxF (roomP v.1) s.2 0).toNat (v.1, 0, v.2.2)) else if s.2.length < 8 then (s.1, s.2 ++ [(v.1, 0, v.2.2)]) else s
end Go.Proofs.Ytjifalccioebnaa

set_option linter.unusedVariables false
set_option linter.unusedSimpArgs false
set_option maxRecDepth 8000
namespace Go.Proofs.Ytjifalccioebnaa
open Go.Eng
def sLeft : MSpec := ⟨[.m RP], [⟨false, [.d (.int .i64)]⟩], fun _ => True, fun x => (((List.length (α := Int) x.1.1 : Nat), ()), x.1, ())⟩
theorem fLeft : FnOk Try.prog 49 := ⟨_, Try.func49, by decide, rfl⟩
theorem pLeft : SpecOk Try.prog 49 sLeft.spec := by
  refine mOk (T := tab) (S := (spOf [])) (keep := k49m) tabOk spNil (by kernel_rfl) Try.func49 (by kernel_rfl) (by kernel_rfl) (by decide) fun xs hg hp => ?_
  obtain ⟨⟨b, e, ⟨⟩⟩, ⟨⟩⟩ := xs
  change List Int at b
  change Int at e
  show vfunM tab _ k49m Try.f49 [.ptr 0 0] [(0, .box [.sl (.int .u8) b, .i .i64 e])] _
  refine Ev.out ?_
  repeat' (first | ((with_reducible refine Ev.mk ?_); conv => whnf) | (with_reducible refine And.intro ?_ ?_) | (intro h))
  all_goals exact Leaf.mk rfl
def sBEqual : PSpec := ⟨[.d BT, .d BT], [⟨false, [.d .bool]⟩], fun _ => True, fun x => ((strOfBytes x.1 == strOfBytes x.2.1, ()), ())⟩
theorem fBEqual : FnOk Try.prog 51 := ⟨_, Try.func51, by decide, rfl⟩
theorem pBEqual : PSound Try.prog 51 sBEqual := by
  refine psound (T := tab) (S := (spOf [])) (keep := k51) (by kernel_rfl) tabOk spNil (by kernel_rfl) Try.func51 (by kernel_rfl) (by decide) fun xs hg hp => ?_
  obtain ⟨xs, ys, ⟨⟩⟩ := xs
  show vfun tab _ k51 Try.f51 [.sl (.int .u8) xs, .sl (.int .u8) ys] [] _
  refine Ev.out ?_
  repeat' (first | ((with_reducible refine Ev.mk ?_); conv => whnf) | (with_reducible refine And.intro ?_ ?_) | (intro h))
  all_goals exact Leaf.mk rfl
def sFlag : PSpec := ⟨[.d .bool], [⟨false, [.d (.int .u8)]⟩], fun _ => True, fun x => ((if x.1 = true then 1 else 0, ()), ())⟩
end Go.Proofs.Ytjifalccioebnaa

set_option linter.unusedVariables false
set_option linter.unusedSimpArgs false
set_option maxRecDepth 8000
namespace Go.Proofs.Ytjifalccioebnaa
open Go.Eng
theorem rdSmall_put {n : Int} (h0 : 0 ≤ n) (h1 : n ≤ 1099511627776) (r : List Int) : rdSmall (putSmall n ++ r) 0 = (n, r, 0) := by
  have hg := getSmall_put (n := n) (by omega) r
  rw [rdSmall, if_neg (by simp), hg]
  dsimp only
  rw [if_neg (by simp), if_neg (by omega), Int.toNat_natCast, List.drop_left']
  rfl
theorem rdText_put {k : List UInt8} {m : Int} (h0 : (k.length : Int) ≤ m) (r : List Int) : rdText (putText k ++ r) 0 m = (k, r, 0) := by
  have hg := getText_put k r
  rw [rdText, if_neg (by simp), hg]
  dsimp only
  rw [if_neg (by simp), if_neg (by split <;> omega), Int.toNat_natCast, List.drop_left']
  rfl
end Go.Proofs.Ytjifalccioebnaa

set_option linter.unusedVariables false
set_option linter.unusedSimpArgs false
set_option maxRecDepth 8000
set_option maxHeartbeats 4000000
namespace Go.Proofs.Ytjifalccioebnaa
open Go.Eng
theorem wrapu {n : Int} (h : 0 ≤ n ∧ n ≤ 1099511627776) : IntKind.u64.wrap n = n := by rw [wrapU64]; omega
theorem retB {u v : List Int × Int} (h : u = v) : (some ((u.1, ()), (u.2, ()), ()) : Option ((List Int × Unit) × (Int × Unit) × Unit)) = some ((v.1, ()), (v.2, ()), ()) := by rw [h]
end Go.Proofs.Ytjifalccioebnaa

set_option linter.unusedVariables false
set_option linter.unusedSimpArgs false
namespace Go.Proofs.Ytjifalccioebnaa
open Go.Eng
def rel (me at' : Int) (v : Ver) : Bool := pend me v || okTs at' v
end Go.Proofs.Ytjifalccioebnaa

set_option linter.unusedVariables false
set_option linter.unusedSimpArgs false
set_option maxRecDepth 8000
set_option maxHeartbeats 4000000
namespace Go.Proofs.Ytjifalccioebnaa
open Go.Eng
theorem rdSmall_suf (b : List Int) (e : Int) : (rdSmall b e).2.1 <:+ b := by
  unfold rdSmall
  repeat' split
  all_goals first | exact List.suffix_refl _ | exact List.drop_suffix _ _
theorem rdText_suf (b : List Int) (e m : Int) : (rdText b e m).2.1 <:+ b := by
  unfold rdText
  generalize (if 0 < m then m else 0) = mm
  repeat' split
  all_goals first | exact List.suffix_refl _ | exact List.drop_suffix _ _
theorem suf_len {a b : List Int} (h : a <:+ b) : a.length ≤ b.length := h.length_le
theorem suf_cut {R b : List Int} (h : R <:+ b) : (List.take b.length b).drop ((b.length : Int) - (R.length : Int)).toNat = R := by
  have := h.length_le
  rw [List.take_length, show ((b.length : Int) - (R.length : Int)).toNat = b.length - R.length by omega]
  exact (List.suffix_iff_eq_drop.1 h).symm
theorem str_eq {xs ys : List Int} (hx : isB xs) (hy : isB ys) : (strOfBytes xs == strOfBytes ys) = decide (xs = ys) := by
  by_cases h : xs = ys
  · subst h; simp
  · rw [decide_eq_false h, beq_eq_false_iff_ne]
    exact fun hc => h (str_inj hx hy hc)
end Go.Proofs.Ytjifalccioebnaa

set_option linter.unusedVariables false
set_option linter.unusedSimpArgs false
namespace Go.Proofs.Ytjifalccioebnaa
open Go.Eng
def kept (P : List Ver) : List Ver := match P.getLast? with
  | none => []
  | some v => if v.2.2.1 = true then [] else [v]
end Go.Proofs.Ytjifalccioebnaa
