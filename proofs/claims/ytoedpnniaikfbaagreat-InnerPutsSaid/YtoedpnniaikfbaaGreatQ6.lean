import Derived.Test.YtoedpnniaikfbaaGreatEng4
import Derived.Test.YtoedpnniaikfbaaGreatEng5
import Derived.Test.YtoedpnniaikfbaaGreatTab
/- Texts, one behind the other. -/
set_option linter.unusedVariables false
set_option linter.unusedSimpArgs false
set_option maxRecDepth 8000
set_option maxHeartbeats 4000000
namespace Go.Proofs.YtoedpnniaikfbaaGreat
open Go.Eng
def cstep {α : Type} [DecidableEq α] (acc : List α) (x : α) : List α := if acc.getLast? = some x then acc else acc ++ [x]
def compL {α : Type} [DecidableEq α] (l : List α) : List α := l.foldl cstep []
section
variable {α : Type} [DecidableEq α]
theorem compL_snoc (l : List α) (x : α) : compL (l ++ [x]) = cstep (compL l) x := by rw [compL, List.foldl_append]; rfl
theorem compL_rev : ∀ (n : Nat) (l : List α), l.length = n → (compL l).getLast? = l.getLast? ∧ (compL l).length ≤ l.length
  | 0, l, h => by rw [List.eq_nil_of_length_eq_zero h]; exact ⟨rfl, Nat.le_refl _⟩
  | n + 1, l, h => by
    have hne : l ≠ [] := by rintro rfl; simp at h
    rw [← List.dropLast_concat_getLast hne]
    have h3 : l.dropLast.length = l.length - 1 := List.length_dropLast
    have ih := compL_rev n l.dropLast (by omega)
    rw [compL_snoc, cstep]
    split
    · rename_i hs
      rw [hs, List.length_append]; exact ⟨by simp, by have := ih.2; simp; omega⟩
    · rw [List.length_append, List.length_append]; exact ⟨by simp, by have := ih.2; simp; omega⟩
theorem compL_last (l : List α) : (compL l).getLast? = l.getLast? := (compL_rev _ l rfl).1
theorem compL_step (d : α) {xs : List α} {n : Nat} (h1 : 1 ≤ n) (h : n < xs.length) : compL (xs.take (n + 1)) = if xs.getD (n - 1) d = xs.getD n d then compL (xs.take n) else compL (xs.take n) ++ [xs.getD n d] := by
  rw [take_at d h, compL_snoc, cstep, compL_last]
  have e : (xs.take n).getLast? = some (xs.getD (n - 1) d) := by
    rw [List.getLast?_eq_getElem?, List.length_take, Nat.min_eq_left (by omega), List.getElem?_take, if_pos (by omega), List.getElem?_eq_getElem (by omega)]
    simp [List.getD, show n - 1 < xs.length by omega]
  rw [e]
  simp only [Option.some.injEq]
theorem compL_eq (d : α) {xs : List α} {n : Nat} (h1 : 1 ≤ n) (h : n < xs.length) (he : xs.getD n d = xs.getD (n - 1) d) : compL (xs.take (n + 1)) = compL (xs.take n) := by
  rw [compL_step d h1 h, if_pos he.symm]
theorem compL_ne (d : α) {xs : List α} {n : Nat} (h1 : 1 ≤ n) (h : n < xs.length) (he : ¬ xs.getD n d = xs.getD (n - 1) d) : compL (xs.take (n + 1)) = compL (xs.take n) ++ [xs.getD n d] := by
  rw [compL_step d h1 h, if_neg (fun hc => he hc.symm)]
end
structure CF {α : Type} [DecidableEq α] (xs : List α) (k : Nat) (zs : List (Option α)) (i j : Nat) : Prop where
  len : zs.length = xs.length + k
  cnt : i = (compL (xs.take j)).length
  lt : i < j
  le : j ≤ xs.length
  front : zs.take i = (compL (xs.take j)).map some
  rest : zs.drop (j - 1) = (xs.map some ++ List.replicate k none).drop (j - 1)
section
variable {α : Type} [DecidableEq α] {xs : List α} {k : Nat} {zs : List (Option α)} {i j : Nat}
theorem CF.get (q : CF xs k zs i j) (d : α) {m : Nat} (h : j - 1 ≤ m) (h2 : m < xs.length) : zs.getD m none = some (xs.getD m d) := by
  rw [← raw_getD (k := k) d h2, List.getD_eq_getElem?_getD, List.getD_eq_getElem?_getD]
  have := congrArg (·[m - (j - 1)]?) q.rest
  simp only [List.getElem?_drop, show j - 1 + (m - (j - 1)) = m by omega] at this
  rw [this]
theorem CF.first (d : α) {n : Nat} (h1 : 1 ≤ n) (h : n < xs.length) (hc : compL (xs.take n) = xs.take n) (he : xs.getD n d = xs.getD (n - 1) d) : CF xs k (xs.map some ++ List.replicate k none) n (n + 1) := by
  have e : compL (xs.take (n + 1)) = xs.take n := by rw [compL_eq d h1 h he, hc]
  exact ⟨by simp, by rw [e, List.length_take]; omega, by omega, by omega, by rw [e, raw_take (by omega)], rfl⟩
theorem CF.same (q : CF xs k zs i j) (d : α) (h : j < xs.length) (he : xs.getD j d = xs.getD (j - 1) d) : CF xs k zs i (j + 1) := by
  have hlt := q.lt
  have e : compL (xs.take (j + 1)) = compL (xs.take j) := compL_eq d (by omega) h he
  refine ⟨q.len, by rw [e]; exact q.cnt, by omega, by omega, by rw [e]; exact q.front, ?_⟩
  have := congrArg (List.drop 1) q.rest
  simp only [List.drop_drop] at this
  rw [show j - 1 + 1 = j by omega] at this
  rw [Nat.add_sub_cancel]; exact this
theorem CF.new (q : CF xs k zs i j) (d : α) (h : j < xs.length) (he : ¬ xs.getD j d = xs.getD (j - 1) d) : CF xs k (zs.set i (some (xs.getD j d))) (i + 1) (j + 1) := by
  have hlt := q.lt
  have e : compL (xs.take (j + 1)) = compL (xs.take j) ++ [xs.getD j d] := compL_ne d (by omega) h he
  have hl := q.len
  refine ⟨by rw [List.length_set]; exact hl, by rw [e, List.length_append, ← q.cnt]; rfl, by omega, by omega, ?_, ?_⟩
  · rw [e, List.map_append, ← q.front, take_at none (by rw [List.length_set]; omega), List.take_set_of_le (Nat.le_refl _)]
    congr 1
    rw [List.getD_eq_getElem?_getD, List.getElem?_set_self (by omega)]; rfl
  · have := congrArg (List.drop 1) q.rest
    simp only [List.drop_drop] at this
    rw [show j - 1 + 1 = j by omega] at this
    rw [Nat.add_sub_cancel, List.drop_set_of_lt (by omega)]; exact this
theorem CF.fin (q : CF xs k zs i xs.length) : zs.take i = (compL xs).map some := by
  have := q.front
  rwa [take_all (Nat.le_refl _)] at this
end
end Go.Proofs.YtoedpnniaikfbaaGreat

set_option linter.unusedVariables false
set_option linter.unusedSimpArgs false
namespace Go.Proofs.YtoedpnniaikfbaaGreat
open Go.Eng
abbrev BT : Ty := .slice (.int .u8)
theorem pXIndexByte : XOk Tryz.prog 100 xIndexByte := xIndexByte_ok Tryz.func100 (by kernel_rfl) (by kernel_rfl) (by kernel_rfl) (by kernel_rfl)
def sBClone : PSpec := ⟨[.d BT], [⟨false, [.d BT]⟩], fun x => x.1.length ≤ 1000000, fun x => ((x.1, ()), ())⟩
theorem fBClone : FnOk Tryz.prog 69 := ⟨_, Tryz.func69, by decide, rfl⟩
theorem pBClone : PSound Tryz.prog 69 sBClone := by
  refine psound (T := tab) (S := (spOf [])) (keep := k69) (by kernel_rfl) tabOk spNil (by kernel_rfl) Tryz.func69 (by kernel_rfl) (by decide) fun xs hg hp => ?_
  obtain ⟨xs, ⟨⟩⟩ := xs
  obtain ⟨⟨hl, -⟩, -⟩ := hg
  change List Int at xs
  clear hl
  change xs.length ≤ 1000000 at hp
  show vfun tab _ k69 Tryz.f69 [.sl (.int .u8) xs] [] _
  refine Ev.out ?_
  repeat' (first | ((with_reducible refine Ev.mk ?_); conv => whnf) | (with_reducible refine And.intro ?_ ?_) | (intro h))
  all_goals (try simp only [decide_eq_true_eq, decide_eq_false_iff_not, beq_iff_eq, bne_iff_ne, beq_eq_false_iff_ne, bne_eq_false_iff_eq, Int.toNat_natCast, ge_iff_le, gt_iff_lt, Bool.not_eq_true', Bool.not_eq_false', Int.not_lt, Int.not_le, ne_eq] at *)
  all_goals (try dsimp only [Ty.den, Ty.dflt, BT] at *)
  all_goals (try simp only [eq4, ne4, eq3, ne3, eq2, ne2, Prod.eta, List.length_cons, List.length_nil, List.length_append, Nat.zero_add] at *)
  all_goals (try simp (disch := omega) only [wrap64] at *)
  all_goals try first | exact leafDraw (by kernel_rfl) | exact Leaf.mk trivial | (refine Leaf.mk ?_; omega) | (refine Leaf.mk ?_; unfold maxLen; omega)
  · refine Leaf.mk (ret1 (show ([] : List Int) = xs from ?_))
    exact (List.eq_nil_of_length_eq_zero h).symm
  · exact Leaf.mk (ret1 rfl)
def sIndexByte : PSpec := ⟨[.d BT, .d (.int .u8)], [⟨false, [.d (.int .i64)]⟩], fun _ => True, fun x => ((Lib.indexByte (strOfBytes x.1) x.2.1.toNat.toUInt8, ()), ())⟩
theorem fIndexByte : FnOk Tryz.prog 94 := ⟨_, Tryz.func94, by decide, rfl⟩
theorem pIndexByte : PSound Tryz.prog 94 sIndexByte := by
  refine psound (T := tab) (S := (spOf [(100, xIndexByte)])) (keep := k94) (by kernel_rfl) tabOk (spCons (.inr pXIndexByte) spNil) (by kernel_rfl) Tryz.func94 (by kernel_rfl) (by decide) fun xs hg hp => ?_
  obtain ⟨xs, c, ⟨⟩⟩ := xs
  show vfun tab _ k94 Tryz.f94 [.sl (.int .u8) xs, .i .u8 c] [] _
  refine Ev.out ?_
  repeat' (first | ((with_reducible refine Ev.mk ?_); conv => whnf) | (with_reducible refine And.intro ?_ ?_) | (intro h))
  exact Leaf.mk rfl
def escI (c : Int) : List Int := if c = 0 then [0, 255] else [c]
def putB (xs : List Int) : List Int := xs.flatMap escI ++ [0, 1]
def putText (s : List UInt8) : List Int := putB (bytesOfStr s)
theorem escI_len (xs : List Int) : (xs.flatMap escI).length ≤ 2 * xs.length := by
  induction xs with
  | nil => simp
  | cons x r ih =>
    simp only [List.flatMap_cons, List.length_append, List.length_cons]
    have : (escI x).length ≤ 2 := by unfold escI; split <;> simp
    omega
def sPutText : PSpec := ⟨[.d .str], [⟨false, [.o 5 (.int .u8)]⟩], fun x => x.1.length ≤ 100000, fun x => ((putText x.1, ()), ())⟩
theorem fPutText : FnOk Tryz.prog 59 := ⟨_, Tryz.func59, by decide, rfl⟩
theorem pPutText : PSound Tryz.prog 59 sPutText := by
  refine psound (T := tab) (S := (spOf [])) (keep := k59) (by kernel_rfl) tabOk spNil (by kernel_rfl) Tryz.func59 (by kernel_rfl) (by decide) fun xs hg hp => ?_
  obtain ⟨s, ⟨⟩⟩ := xs
  change List UInt8 at s
  change s.length ≤ 100000 at hp
  have hb : (bytesOfStr s).length = s.length := by simp [bytesOfStr]
  have hpt : putText s = putB (bytesOfStr s) := rfl
  show vfun tab _ k59 Tryz.f59 [.s s] [] _
  refine Ev.out ?_
  repeat' (first | ((with_reducible refine Ev.mk ?_); conv => whnf) | (with_reducible refine And.intro ?_ ?_) | (intro h))
  all_goals (try simp only [decide_eq_true_eq, decide_eq_false_iff_not, beq_iff_eq, bne_iff_ne, beq_eq_false_iff_ne, bne_eq_false_iff_eq, Int.toNat_natCast, ge_iff_le, gt_iff_lt, Bool.not_eq_true', Bool.not_eq_false', Int.not_lt, Int.not_le, ne_eq] at *)
  all_goals (try dsimp only [Ty.den, Ty.dflt, BT] at *)
  all_goals (try simp only [eq4, ne4, eq3, ne3, eq2, ne2, Prod.eta, List.length_cons, List.length_nil, List.length_append, Nat.zero_add] at *)
  all_goals (try simp (disch := omega) only [wrap64] at *)
  all_goals try first | exact leafDraw (by kernel_rfl) | exact Leaf.mk trivial | (refine Leaf.mk ?_; omega) | (refine Leaf.mk ?_; unfold maxLen; omega)
  refine LoopVC.weak [(.slot 3, .nil 5 (.int .u8))] (fun i : Nat => [(9, .i .i64 i)]) (fun i => [(0, .arr 5 (.int .u8) (((bytesOfStr s).take i).flatMap escI))]) (fun i => i ≤ (bytesOfStr s).length) (fun i => (bytesOfStr s).length - i) 0 (Ev.mk ?_)
  (conv => whnf)
  refine ⟨Leaf.mk rfl, Leaf.mk ?_, ?_⟩
  · omega
  intro i hi
  have hc := escI_len ((bytesOfStr s).take i)
  rw [List.length_take] at hc
  repeat' (first | ((with_reducible refine Ev.mk ?_); conv => whnf) | (with_reducible refine And.intro ?_ ?_) | (intro h))
  all_goals (try simp only [decide_eq_true_eq, decide_eq_false_iff_not, beq_iff_eq, bne_iff_ne, beq_eq_false_iff_ne, bne_eq_false_iff_eq, Int.toNat_natCast, ge_iff_le, gt_iff_lt, Bool.not_eq_true', Bool.not_eq_false', Int.not_lt, Int.not_le, ne_eq] at *)
  all_goals (try dsimp only [Ty.den, Ty.dflt, BT] at *)
  all_goals (try simp only [eq4, ne4, eq3, ne3, eq2, ne2, Prod.eta, List.length_cons, List.length_nil, List.length_append, Nat.zero_add] at *)
  all_goals (try simp (disch := omega) only [wrap64] at *)
  all_goals try first | exact leafDraw (by kernel_rfl) | exact Leaf.mk trivial | (refine Leaf.mk ?_; omega) | (refine Leaf.mk ?_; unfold maxLen; omega)
  all_goals first
    | (rw [take_all (by omega)]; exact Leaf.mk (ret1 rfl))
    | (refine Leaf.mk ⟨i + 1, ?_, by omega, by omega⟩
       rw [flatMap_at 0 (by omega)]
       first
       | (rw [show escI ((bytesOfStr s).getD i 0) = [0, 255] from if_pos (by assumption)]; have h7 : (bytesOfStr s).getD i 0 = 0 := by assumption
          rw [h7]; simp only [List.append_assoc, List.cons_append, List.nil_append]; rfl)
       | (rw [show escI ((bytesOfStr s).getD i 0) = [(bytesOfStr s).getD i 0] from if_neg (by assumption)]; rfl))
def sPutTextR : PSpec := sPutText
theorem fPutTextR : FnOk Tryz.prog 67 := ⟨_, Tryz.func67, by decide, rfl⟩
theorem pPutTextR : PSound Tryz.prog 67 sPutTextR := by
  refine psound (T := tab) (S := (spOf [])) (keep := k67) (by kernel_rfl) tabOk spNil (by kernel_rfl) Tryz.func67 (by kernel_rfl) (by decide) fun xs hg hp => ?_
  obtain ⟨s, ⟨⟩⟩ := xs
  change List UInt8 at s
  change s.length ≤ 100000 at hp
  have hb : (bytesOfStr s).length = s.length := by simp [bytesOfStr]
  show vfun tab _ k67 Tryz.f67 [.s s] [] _
  refine Ev.out ?_
  repeat' (first | ((with_reducible refine Ev.mk ?_); conv => whnf) | (with_reducible refine And.intro ?_ ?_) | (intro h))
  all_goals (try simp only [decide_eq_true_eq, decide_eq_false_iff_not, beq_iff_eq, bne_iff_ne, beq_eq_false_iff_ne, bne_eq_false_iff_eq, Int.toNat_natCast, ge_iff_le, gt_iff_lt, Bool.not_eq_true', Bool.not_eq_false', Int.not_lt, Int.not_le, ne_eq] at *)
  all_goals (try dsimp only [Ty.den, Ty.dflt, BT] at *)
  all_goals (try simp only [eq4, ne4, eq3, ne3, eq2, ne2, Prod.eta, List.length_cons, List.length_nil, List.length_append, Nat.zero_add] at *)
  all_goals (try simp (disch := omega) only [wrap64] at *)
  all_goals try first | exact leafDraw (by kernel_rfl) | exact Leaf.mk trivial | (refine Leaf.mk ?_; omega) | (refine Leaf.mk ?_; unfold maxLen; omega)
  refine LoopVC.weak [(.slot 3, .nil 5 (.int .u8))] (fun i : Nat => [(4, .i .i64 i)]) (fun i => [(0, .arr 5 (.int .u8) (((bytesOfStr s).take i).flatMap escI))]) (fun i => i ≤ s.length) (fun i => s.length - i) 0 (Ev.mk ?_)
  (conv => whnf)
  refine ⟨Leaf.mk rfl, Leaf.mk ?_, ?_⟩
  · omega
  intro i hi
  have hc := escI_len ((bytesOfStr s).take i)
  rw [List.length_take] at hc
  have hat : i < s.length → ((s.getD i 0).toNat : Int) = (bytesOfStr s).getD i 0 := fun h => by
    simp [bytesOfStr, List.getD, h]
  repeat' (first | ((with_reducible refine Ev.mk ?_); conv => whnf) | (with_reducible refine And.intro ?_ ?_) | (intro h))
  all_goals (try simp only [decide_eq_true_eq, decide_eq_false_iff_not, beq_iff_eq, bne_iff_ne, beq_eq_false_iff_ne, bne_eq_false_iff_eq, Int.toNat_natCast, ge_iff_le, gt_iff_lt, Bool.not_eq_true', Bool.not_eq_false', Int.not_lt, Int.not_le, ne_eq] at *)
  all_goals (try dsimp only [Ty.den, Ty.dflt, BT] at *)
  all_goals (try simp only [eq4, ne4, eq3, ne3, eq2, ne2, Prod.eta, List.length_cons, List.length_nil, List.length_append, Nat.zero_add] at *)
  all_goals (try simp (disch := omega) only [wrap64] at *)
  all_goals (try rw [hat (by omega)] at *)
  all_goals try first | exact leafDraw (by kernel_rfl) | exact Leaf.mk trivial | (refine Leaf.mk ?_; omega) | (refine Leaf.mk ?_; unfold maxLen; omega)
  all_goals first
    | (rw [take_all (by omega)]; exact Leaf.mk (ret1 rfl))
    | (refine Leaf.mk ⟨i + 1, ?_, by omega, by omega⟩
       rw [flatMap_at 0 (by omega)]
       first
       | (rw [show escI ((bytesOfStr s).getD i 0) = [0, 255] from if_pos (by assumption)]; have h7 : (bytesOfStr s).getD i 0 = 0 := by assumption
          rw [h7]; simp only [List.append_assoc, List.cons_append, List.nil_append]; rfl)
       | (rw [show escI ((bytesOfStr s).getD i 0) = [(bytesOfStr s).getD i 0] from if_neg (by assumption)]; rfl))
def numB (xs : List Int) : Int := xs.foldl (fun n c => (n * 256 + c) % 18446744073709551616) 0
theorem numB_bd (xs : List Int) : 0 ≤ numB xs ∧ numB xs ≤ 18446744073709551615 := by
  have : ∀ (l : List Int) (n : Int), 0 ≤ n ∧ n ≤ 18446744073709551615 → 0 ≤ l.foldl (fun n c => (n * 256 + c) % 18446744073709551616) n ∧ l.foldl (fun n c => (n * 256 + c) % 18446744073709551616) n ≤ 18446744073709551615 := by
    intro l
    induction l with
    | nil => intro n h; exact h
    | cons x r ih => intro n h; refine ih _ ?_; dsimp only; omega
  exact this xs 0 (by omega)
theorem numB_at {xs : List Int} {i : Nat} (h : i < xs.length) : numB (xs.take (i + 1)) = (numB (xs.take i) * 256 + xs.getD i 0) % 18446744073709551616 := by
  unfold numB; rw [foldl_at 0 h]
theorem byte_at {xs : List Int} (hx : ∀ x ∈ xs, Eng.Good (.int .u8) x) {i : Nat} (h : i < xs.length) : 0 ≤ xs.getD i 0 ∧ xs.getD i 0 ≤ 255 := bdu8 (good_at (e := .int .u8) hx h 0)
def sNumber : PSpec := ⟨[.d BT], [⟨false, [.d (.int .u64)]⟩], fun _ => True, fun x => ((numB x.1, ()), ())⟩
theorem fNumber : FnOk Tryz.prog 93 := ⟨_, Tryz.func93, by decide, rfl⟩
theorem pNumber : PSound Tryz.prog 93 sNumber := by
  refine psound (T := tab) (S := (spOf [])) (keep := k93) (by kernel_rfl) tabOk spNil (by kernel_rfl) Tryz.func93 (by kernel_rfl) (by decide) fun xs hg hp => ?_
  obtain ⟨xs, ⟨⟩⟩ := xs
  obtain ⟨⟨hl, hx⟩, -⟩ := hg
  change List Int at xs
  have hl := len63 hl
  change xs.length ≤ _ at hl
  change ∀ x ∈ xs, Eng.Good (.int .u8) x at hx
  clear hp
  show vfun tab _ k93 Tryz.f93 [.sl (.int .u8) xs] [] _
  refine Ev.out ?_
  repeat' (first | ((with_reducible refine Ev.mk ?_); conv => whnf) | (with_reducible refine And.intro ?_ ?_) | (intro h))
  refine LoopVC.on (fun i : Nat => [(3, .i .u64 (numB (xs.take i))), (8, .i .i64 i)]) (fun _ => []) (fun i => i ≤ xs.length) (fun i => xs.length - i) 0 rfl (by omega) ?_
  intro i hi
  repeat' (first | ((with_reducible refine Ev.mk ?_); conv => whnf) | (with_reducible refine And.intro ?_ ?_) | (intro h))
  all_goals (try simp only [decide_eq_true_eq, decide_eq_false_iff_not, beq_iff_eq, bne_iff_ne, beq_eq_false_iff_ne, bne_eq_false_iff_eq, Int.toNat_natCast, ge_iff_le, gt_iff_lt, Bool.not_eq_true', Bool.not_eq_false', Int.not_lt, Int.not_le, ne_eq] at *)
  all_goals (try dsimp only [Ty.den, Ty.dflt, BT] at *)
  all_goals (try simp only [eq4, ne4, eq3, ne3, eq2, ne2, Prod.eta, List.length_cons, List.length_nil, List.length_append, Nat.zero_add] at *)
  all_goals (try simp (disch := omega) only [wrap64] at *)
  all_goals try first | exact leafDraw (by kernel_rfl) | exact Leaf.mk trivial | (refine Leaf.mk ?_; omega) | (refine Leaf.mk ?_; unfold maxLen; omega)
  · refine Leaf.mk ⟨i + 1, ?_, by omega, by omega⟩
    have hb := byte_at hx (i := i) (by omega)
    rw [numB_at (by omega), ← or_byte hb]; rfl
  · rw [take_all (by omega)]; exact Leaf.mk (ret1 rfl)
def sLow : PSpec := sNumber
theorem fLow : FnOk Tryz.prog 95 := ⟨_, Tryz.func95, by decide, rfl⟩
theorem pLow : PSound Tryz.prog 95 sLow := by
  refine psound (T := tab) (S := (spOf [])) (keep := k95) (by kernel_rfl) tabOk spNil (by kernel_rfl) Tryz.func95 (by kernel_rfl) (by decide) fun xs hg hp => ?_
  obtain ⟨xs, ⟨⟩⟩ := xs
  obtain ⟨⟨hl, hx⟩, -⟩ := hg
  change List Int at xs
  have hl := len63 hl
  change xs.length ≤ _ at hl
  change ∀ x ∈ xs, Eng.Good (.int .u8) x at hx
  clear hp
  show vfun tab _ k95 Tryz.f95 [.sl (.int .u8) xs] [] _
  refine Ev.out ?_
  repeat' (first | ((with_reducible refine Ev.mk ?_); conv => whnf) | (with_reducible refine And.intro ?_ ?_) | (intro h))
  refine LoopVC.on (fun i : Nat => [(3, .i .u64 (numB (xs.take i))), (4, .i .i64 i)]) (fun _ => []) (fun i => i ≤ xs.length) (fun i => xs.length - i) 0 rfl (by omega) ?_
  intro i hi
  repeat' (first | ((with_reducible refine Ev.mk ?_); conv => whnf) | (with_reducible refine And.intro ?_ ?_) | (intro h))
  all_goals (try simp only [decide_eq_true_eq, decide_eq_false_iff_not, beq_iff_eq, bne_iff_ne, beq_eq_false_iff_ne, bne_eq_false_iff_eq, Int.toNat_natCast, ge_iff_le, gt_iff_lt, Bool.not_eq_true', Bool.not_eq_false', Int.not_lt, Int.not_le, ne_eq] at *)
  all_goals (try dsimp only [Ty.den, Ty.dflt, BT] at *)
  all_goals (try simp only [eq4, ne4, eq3, ne3, eq2, ne2, Prod.eta, List.length_cons, List.length_nil, List.length_append, Nat.zero_add] at *)
  all_goals (try simp (disch := omega) only [wrap64] at *)
  all_goals try first | exact leafDraw (by kernel_rfl) | exact Leaf.mk trivial | (refine Leaf.mk ?_; omega) | (refine Leaf.mk ?_; unfold maxLen; omega)
  · refine Leaf.mk ⟨i + 1, ?_, by omega, by omega⟩
    have hb := byte_at hx (i := i) (by omega)
    rw [numB_at (by omega)]
    simp only [wrapU64]
    rw [show (256 * numB (xs.take i) % 18446744073709551616 + xs.getD i 0 % 18446744073709551616) % 18446744073709551616 = (numB (xs.take i) * 256 + xs.getD i 0) % 18446744073709551616 by omega]
    rfl
  · rw [take_all (by omega)]; exact Leaf.mk (ret1 rfl)
def layB : Int → Nat → List Int
  | _, 0 => []
  | n, k + 1 => layB (n / 256) k ++ [n % 256]
theorem layB_len : ∀ (k : Nat) (n : Int), (layB n k).length = k
  | 0, n => rfl
  | k + 1, n => by simp [layB, layB_len k]
theorem layB_top : ∀ (k : Nat) (n : Int), layB n (k + 1) = (n / 256 ^ k % 256) :: layB n k
  | 0, n => by simp [layB]
  | k + 1, n => by
    rw [layB, layB_top k (n / 256), layB]
    simp only [List.cons_append]
    rw [Int.ediv_ediv_of_nonneg (by decide), Int.pow_succ, Int.mul_comm]
def sLay : PSpec := ⟨[.d (.int .u64), .d (.int .i64)], [⟨false, [.d BT]⟩], fun x => 0 ≤ x.2.1 ∧ x.2.1 ≤ 8, fun x => ((layB x.1 x.2.1.toNat, ()), ())⟩
theorem fLay : FnOk Tryz.prog 88 := ⟨_, Tryz.func88, by decide, rfl⟩
theorem pLay : PSound Tryz.prog 88 sLay := by
  refine psound (T := tab) (S := (spOf [])) (keep := k88) (by kernel_rfl) tabOk spNil (by kernel_rfl) Tryz.func88 (by kernel_rfl) (by decide) fun xs hg hp => ?_
  obtain ⟨n, k, ⟨⟩⟩ := xs
  obtain ⟨hn, -⟩ := hg
  change Int at n
  change Int at k
  have hn := bdu64 hn
  change 0 ≤ n ∧ n ≤ _ at hn
  change 0 ≤ k ∧ k ≤ 8 at hp
  show vfun tab _ k88 Tryz.f88 [.i .u64 n, .i .i64 k] [] _
  refine Ev.out ?_
  repeat' (first | ((with_reducible refine Ev.mk ?_); conv => whnf) | (with_reducible refine And.intro ?_ ?_) | (intro h))
  all_goals (try simp only [decide_eq_true_eq, decide_eq_false_iff_not, beq_iff_eq, bne_iff_ne, beq_eq_false_iff_ne, bne_eq_false_iff_eq, Int.toNat_natCast, ge_iff_le, gt_iff_lt, Bool.not_eq_true', Bool.not_eq_false', Int.not_lt, Int.not_le, ne_eq] at *)
  all_goals (try dsimp only [Ty.den, Ty.dflt, BT] at *)
  all_goals (try simp only [eq4, ne4, eq3, ne3, eq2, ne2, Prod.eta, List.length_cons, List.length_nil, List.length_append, Nat.zero_add] at *)
  all_goals (try simp (disch := omega) only [wrap64] at *)
  all_goals try first | exact leafDraw (by kernel_rfl) | exact Leaf.mk trivial | (refine Leaf.mk ?_; omega) | (refine Leaf.mk ?_; unfold maxLen; omega)
  refine LoopVC.on (fun i : Nat => [(10, .i .i64 i)]) (fun i => [(0, .arr 5 (.int .u8) (List.replicate (k.toNat - i) 0 ++ layB n i))]) (fun i => (i : Int) ≤ k) (fun i => k.toNat - i) 0 ?_ (by simp; omega) ?_
  · simp only [layB, List.append_nil, Nat.sub_zero]; rfl
  intro i hi
  repeat' (first | ((with_reducible refine Ev.mk ?_); conv => whnf) | (with_reducible refine And.intro ?_ ?_) | (intro h))
  all_goals (try simp only [decide_eq_true_eq, decide_eq_false_iff_not, beq_iff_eq, bne_iff_ne, beq_eq_false_iff_ne, bne_eq_false_iff_eq, Int.toNat_natCast, ge_iff_le, gt_iff_lt, Bool.not_eq_true', Bool.not_eq_false', Int.not_lt, Int.not_le, ne_eq] at *)
  all_goals (try dsimp only [Ty.den, Ty.dflt, BT] at *)
  all_goals (try simp only [eq4, ne4, eq3, ne3, eq2, ne2, Prod.eta, List.length_cons, List.length_nil, List.length_append, Nat.zero_add] at *)
  all_goals (try simp (disch := omega) only [wrap64] at *)
  all_goals try first | exact leafDraw (by kernel_rfl) | exact Leaf.mk trivial | (refine Leaf.mk ?_; omega) | (refine Leaf.mk ?_; unfold maxLen; omega)
  all_goals (try simp only [List.length_replicate, layB_len])
  all_goals try (refine Leaf.mk ?_; omega)
  · refine Leaf.mk ?_
    rw [shr8 n (by omega)]
    have := div256_bd hn i
    simp only [inK, Bool.and_eq_true, decide_eq_true_eq]; exact this
  · refine Leaf.mk ⟨i + 1, ?_, by omega, by omega⟩
    rw [shr8 n (by omega), wrapU8, layB_top]
    obtain ⟨m, hm⟩ : ∃ m, k.toNat - i = m + 1 := ⟨k.toNat - i - 1, by omega⟩
    rw [hm, show k.toNat - (i + 1) = m by omega, show (k - 1 - (i : Int)).toNat = m by omega]
    rw [show List.replicate (m + 1) (0 : Int) = List.replicate m 0 ++ [0] from List.replicate_succ', List.append_assoc, List.set_append_right _ _ (by simp)]
    simp only [List.length_replicate, Nat.sub_self, List.cons_append, List.nil_append, List.set_cons_zero]
    rfl
  · refine Leaf.mk (ret1 (show _ = layB n k.toNat from ?_))
    rw [show k.toNat - i = 0 by omega, show i = k.toNat by omega]; simp
def sHigh : PSpec := sLay
theorem fHigh : FnOk Tryz.prog 92 := ⟨_, Tryz.func92, by decide, rfl⟩
theorem pHigh : PSound Tryz.prog 92 sHigh := by
  refine psound (T := tab) (S := (spOf [])) (keep := k92) (by kernel_rfl) tabOk spNil (by kernel_rfl) Tryz.func92 (by kernel_rfl) (by decide) fun xs hg hp => ?_
  obtain ⟨n, k, ⟨⟩⟩ := xs
  obtain ⟨hn, -⟩ := hg
  change Int at n
  change Int at k
  have hn := bdu64 hn
  change 0 ≤ n ∧ n ≤ _ at hn
  change 0 ≤ k ∧ k ≤ 8 at hp
  show vfun tab _ k92 Tryz.f92 [.i .u64 n, .i .i64 k] [] _
  refine Ev.out ?_
  repeat' (first | ((with_reducible refine Ev.mk ?_); conv => whnf) | (with_reducible refine And.intro ?_ ?_) | (intro h))
  all_goals (try simp only [decide_eq_true_eq, decide_eq_false_iff_not, beq_iff_eq, bne_iff_ne, beq_eq_false_iff_ne, bne_eq_false_iff_eq, Int.toNat_natCast, ge_iff_le, gt_iff_lt, Bool.not_eq_true', Bool.not_eq_false', Int.not_lt, Int.not_le, ne_eq] at *)
  all_goals (try dsimp only [Ty.den, Ty.dflt, BT] at *)
  all_goals (try simp only [eq4, ne4, eq3, ne3, eq2, ne2, Prod.eta, List.length_cons, List.length_nil, List.length_append, Nat.zero_add] at *)
  all_goals (try simp (disch := omega) only [wrap64] at *)
  all_goals try first | exact leafDraw (by kernel_rfl) | exact Leaf.mk trivial | (refine Leaf.mk ?_; omega) | (refine Leaf.mk ?_; unfold maxLen; omega)
  refine LoopVC.weak [(.slot 5, .nil 5 (.int .u8))] (fun i : Nat => [(6, .i .i64 i), (0, .i .u64 (n / 256 ^ i))]) (fun i => [(0, .arr 5 (.int .u8) (layB n i))]) (fun i => (i : Int) ≤ k) (fun i => k.toNat - i) 0 (Ev.mk ?_)
  (conv => whnf)
  refine ⟨Leaf.mk ?_, Leaf.mk ?_, ?_⟩
  · rw [Int.pow_zero, Int.ediv_one]; rfl
  · simp; omega
  intro i hi
  have hd := div256_bd hn i
  repeat' (first | ((with_reducible refine Ev.mk ?_); conv => whnf) | (with_reducible refine And.intro ?_ ?_) | (intro h))
  all_goals (try simp only [decide_eq_true_eq, decide_eq_false_iff_not, beq_iff_eq, bne_iff_ne, beq_eq_false_iff_ne, bne_eq_false_iff_eq, Int.toNat_natCast, ge_iff_le, gt_iff_lt, Bool.not_eq_true', Bool.not_eq_false', Int.not_lt, Int.not_le, ne_eq] at *)
  all_goals (try dsimp only [Ty.den, Ty.dflt, BT] at *)
  all_goals (try simp only [eq4, ne4, eq3, ne3, eq2, ne2, Prod.eta, List.length_cons, List.length_nil, List.length_append, Nat.zero_add] at *)
  all_goals (try simp (disch := omega) only [wrap64] at *)
  all_goals (try simp only [layB_len, tmodP hd.1, tdivP hd.1] at *)
  all_goals try first | exact leafDraw (by kernel_rfl) | exact Leaf.mk trivial | (refine Leaf.mk ?_; omega) | (refine Leaf.mk ?_; unfold maxLen; omega)
  · refine Leaf.mk ?_
    simp only [inK, Bool.and_eq_true, decide_eq_true_eq]; omega
  · refine Leaf.mk ⟨i + 1, ?_, by omega, by omega⟩
    rw [layB_top, wrapU64, wrapU8, Int.emod_emod_of_dvd _ (by decide : (256 : Int) ∣ 256)]
    rw [show n / 256 ^ i / 256 % 18446744073709551616 = n / 256 ^ (i + 1) by rw [Int.pow_succ, ← Int.ediv_ediv_of_nonneg (Int.le_of_lt (Int.pow_pos (by decide)))]; omega]
    rfl
  · refine Leaf.mk (ret1 (show _ = layB n k.toNat from ?_))
    rw [show i = k.toNat by omega]
def widthN : Nat → Int → Nat
  | 0, _ => 0
  | f + 1, n => if 0 < n then widthN f (n / 256) + 1 else 0
theorem widthN_le : ∀ (f : Nat) (n : Int), widthN f n ≤ f
  | 0, _ => Nat.le_refl _
  | f + 1, n => by unfold widthN; split; have := widthN_le f (n / 256); omega; omega
def sWidth : PSpec := ⟨[.d (.int .u64)], [⟨false, [.d (.int .i64)]⟩], fun _ => True, fun x => (((widthN 8 x.1 : Nat), ()), ())⟩
theorem fWidth : FnOk Tryz.prog 87 := ⟨_, Tryz.func87, by decide, rfl⟩
theorem pWidth : PSound Tryz.prog 87 sWidth := by
  refine psound (T := tab) (S := (spOf [])) (keep := k87) (by kernel_rfl) tabOk spNil (by kernel_rfl) Tryz.func87 (by kernel_rfl) (by decide) fun xs hg hp => ?_
  obtain ⟨n, ⟨⟩⟩ := xs
  obtain ⟨hn, -⟩ := hg
  change Int at n
  have hn := bdu64 hn
  change 0 ≤ n ∧ n ≤ _ at hn
  clear hp
  show vfun tab _ k87 Tryz.f87 [.i .u64 n] [] _
  refine Ev.out ?_
  repeat' (first | ((with_reducible refine Ev.mk ?_); conv => whnf) | (with_reducible refine And.intro ?_ ?_) | (intro h))
  refine LoopVC.on (fun a : Nat × Int => [(0, .i .u64 a.2), (3, .i .i64 a.1)]) (fun _ => []) (fun a => a.1 ≤ 8 ∧ (0 ≤ a.2 ∧ a.2 ≤ 18446744073709551615) ∧ a.2 < 256 ^ (8 - a.1) ∧ widthN 8 n = a.1 + widthN (8 - a.1) a.2) (fun a => 8 - a.1) (0, n) rfl ?_ ?_
  · refine ⟨by omega, hn, ?_, by simp⟩
    show n < 256 ^ 8
    omega
  intro ⟨k, m⟩ ⟨h1, h2, h3, h4⟩
  dsimp only at h1 h2 h3 h4
  repeat' (first | ((with_reducible refine Ev.mk ?_); conv => whnf) | (with_reducible refine And.intro ?_ ?_) | (intro h))
  all_goals (try simp only [decide_eq_true_eq, decide_eq_false_iff_not, beq_iff_eq, bne_iff_ne, beq_eq_false_iff_ne, bne_eq_false_iff_eq, Int.toNat_natCast, ge_iff_le, gt_iff_lt, Bool.not_eq_true', Bool.not_eq_false', Int.not_lt, Int.not_le, ne_eq] at *)
  all_goals (try dsimp only [Ty.den, Ty.dflt, BT] at *)
  all_goals (try simp only [eq4, ne4, eq3, ne3, eq2, ne2, Prod.eta, List.length_cons, List.length_nil, List.length_append, Nat.zero_add] at *)
  all_goals (try simp (disch := omega) only [wrap64] at *)
  all_goals try first | exact leafDraw (by kernel_rfl) | exact Leaf.mk trivial | (refine Leaf.mk ?_; omega) | (refine Leaf.mk ?_; unfold maxLen; omega)
  all_goals (try rw [shrB])
  · refine Leaf.mk ?_
    simp only [inK, Bool.and_eq_true, decide_eq_true_eq]; omega
  · obtain ⟨j, hj⟩ : ∃ j, 8 - k = j + 1 := by
      refine ⟨8 - k - 1, ?_⟩
      rcases Nat.lt_or_ge k 8 with h8 | h8
      · omega
      · rw [show 8 - k = 0 by omega] at h3
        simp only [Int.pow_zero] at h3
        omega
    rw [hj] at h3 h4
    refine Leaf.mk ⟨(k + 1, m / 256), rfl, ⟨by omega, by dsimp only; omega, ?_, ?_⟩, by dsimp only; omega⟩
    · dsimp only
      rw [show 8 - (k + 1) = j by omega]
      rw [Int.pow_succ] at h3
      exact Int.ediv_lt_of_lt_mul (by decide) h3
    · dsimp only
      rw [h4, widthN, if_pos h, show 8 - (k + 1) = j by omega]; omega
  · refine Leaf.mk (ret1 (show (k : Int) = (widthN 8 n : Nat) from ?_))
    have : m = 0 := by omega
    subst this
    have h0 : ∀ f, widthN f 0 = 0 := fun f => by cases f <;> simp [widthN]
    rw [h4, h0]; rfl
end Go.Proofs.YtoedpnniaikfbaaGreat

set_option linter.unusedVariables false
set_option linter.unusedSimpArgs false
namespace Go.Proofs.YtoedpnniaikfbaaGreat
open Go.Eng
theorem tdiv256 {n : Int} (h : 0 ≤ n ∧ n ≤ 18446744073709551615) : n.tdiv 256 = n / 256 := Int.tdiv_eq_ediv_of_nonneg h.1
theorem byte0 {xs : List Int} (hx : ∀ x ∈ xs, Eng.Good (.int .u8) x) (i : Nat) : 0 ≤ xs.getD i 0 ∧ xs.getD i 0 ≤ 255 := by
  rcases Nat.lt_or_ge i xs.length with h | h
  · exact bdu8 (good_at (e := .int .u8) hx h 0)
  · rw [List.getD_eq_getElem?_getD, List.getElem?_eq_none h]; decide
def putSmall (n : Int) : List Int := ((widthN 8 n : Nat) : Int) :: layB n (widthN 8 n)
def sPutSmall : PSpec := ⟨[.d (.int .u64)], [⟨false, [.o 5 (.int .u8)]⟩], fun _ => True, fun x => ((putSmall x.1, ()), ())⟩
theorem fPutSmall : FnOk Tryz.prog 58 := ⟨_, Tryz.func58, by decide, rfl⟩
theorem pPutSmall : PSound Tryz.prog 58 sPutSmall := by
  refine psound (T := tab) (S := (spOf [(87, sWidth.spec (lsOf [])), (88, sLay.spec (lsOf []))])) (keep := k58) (by kernel_rfl) tabOk (spCons (pOk pWidth fWidth (by decide) lsNil) (spCons (pOk pLay fLay (by decide) lsNil) spNil)) (by kernel_rfl) Tryz.func58 (by kernel_rfl) (by decide) fun xs hg hp => ?_
  obtain ⟨n, ⟨⟩⟩ := xs
  obtain ⟨hn, -⟩ := hg
  change Int at n
  have hn := bdu64 hn
  change 0 ≤ n ∧ n ≤ _ at hn
  have hw := widthN_le 8 n
  clear hp
  show vfun tab _ k58 Tryz.f58 [.i .u64 n] [] _
  refine Ev.out ?_
  repeat' (first | ((with_reducible refine Ev.mk ?_); conv => whnf) | (with_reducible refine And.intro ?_ ?_) | (intro h))
  all_goals (try simp only [decide_eq_true_eq, decide_eq_false_iff_not, beq_iff_eq, bne_iff_ne, beq_eq_false_iff_ne, bne_eq_false_iff_eq, Int.toNat_natCast, ge_iff_le, gt_iff_lt, Bool.not_eq_true', Bool.not_eq_false', Int.not_lt, Int.not_le, ne_eq] at *)
  all_goals (try dsimp only [Ty.den, Ty.dflt, BT, sWidth, sLay] at *)
  all_goals (try simp only [eq4, ne4, eq3, ne3, eq2, ne2, Prod.eta, List.length_cons, List.length_nil, List.length_append, Nat.zero_add] at *)
  all_goals (try simp (disch := omega) only [wrap64] at *)
  all_goals (try simp only [layB_len, Int.toNat_natCast] at *)
  all_goals try first | exact leafDraw (by kernel_rfl) | exact Leaf.mk trivial | (refine Leaf.mk ?_; omega) | (refine Leaf.mk ?_; unfold maxLen; omega)
  · exact Leaf.mk (show (0 : Int) ≤ ((widthN 8 n : Nat) : Int) ∧ ((widthN 8 n : Nat) : Int) ≤ 8 by omega)
  · refine Leaf.mk (ret1 (show [IntKind.u8.wrap ((widthN 8 n : Nat) : Int)] ++ layB n (((widthN 8 n : Nat) : Int)).toNat = putSmall n from ?_))
    rw [wrapU8, putSmall, Int.toNat_natCast]
    rw [show ((widthN 8 n : Nat) : Int) % 256 = ((widthN 8 n : Nat) : Int) by omega]; rfl
def sPutSmallR : PSpec := sPutSmall
theorem fPutSmallR : FnOk Tryz.prog 66 := ⟨_, Tryz.func66, by decide, rfl⟩
theorem pPutSmallR : PSound Tryz.prog 66 sPutSmallR := by
  refine psound (T := tab) (S := (spOf [(92, sHigh.spec (lsOf []))])) (keep := k66) (by kernel_rfl) tabOk (spCons (pOk pHigh fHigh (by decide) lsNil) spNil) (by kernel_rfl) Tryz.func66 (by kernel_rfl) (by decide) fun xs hg hp => ?_
  obtain ⟨n, ⟨⟩⟩ := xs
  obtain ⟨hn, -⟩ := hg
  change Int at n
  have hn := bdu64 hn
  change 0 ≤ n ∧ n ≤ _ at hn
  have hw := widthN_le 8 n
  clear hp
  show vfun tab _ k66 Tryz.f66 [.i .u64 n] [] _
  refine Ev.out ?_
  repeat' (first | ((with_reducible refine Ev.mk ?_); conv => whnf) | (with_reducible refine And.intro ?_ ?_) | (intro h))
  refine LoopVC.on (fun a : Nat × Int => [(3, .i .i64 a.1), (4, .i .u64 a.2)]) (fun _ => []) (fun a => a.1 ≤ 8 ∧ (0 ≤ a.2 ∧ a.2 ≤ 18446744073709551615) ∧ a.2 < 256 ^ (8 - a.1) ∧ widthN 8 n = a.1 + widthN (8 - a.1) a.2) (fun a => 8 - a.1) (0, n) rfl ?_ ?_
  · refine ⟨by omega, hn, ?_, by simp⟩
    show n < 256 ^ 8
    omega
  intro ⟨k, m⟩ ⟨h1, h2, h3, h4⟩
  dsimp only at h1 h2 h3 h4
  repeat' (first | ((with_reducible refine Ev.mk ?_); conv => whnf) | (with_reducible refine And.intro ?_ ?_) | (intro h))
  all_goals (try simp only [decide_eq_true_eq, decide_eq_false_iff_not, beq_iff_eq, bne_iff_ne, beq_eq_false_iff_ne, bne_eq_false_iff_eq, Int.toNat_natCast, ge_iff_le, gt_iff_lt, Bool.not_eq_true', Bool.not_eq_false', Int.not_lt, Int.not_le, ne_eq] at *)
  all_goals (try dsimp only [Ty.den, Ty.dflt, BT, sHigh, sLay] at *)
  all_goals (try simp only [eq4, ne4, eq3, ne3, eq2, ne2, Prod.eta, List.length_cons, List.length_nil, List.length_append, Nat.zero_add] at *)
  all_goals (try simp (disch := omega) only [wrap64] at *)
  all_goals (try simp only [layB_len, tdiv256 h2] at *)
  all_goals try first | exact leafDraw (by kernel_rfl) | exact Leaf.mk trivial | (refine Leaf.mk ?_; omega) | (refine Leaf.mk ?_; unfold maxLen; omega)
  all_goals first
    | exact Leaf.mk (show (0 : Int) ≤ ((k : Nat) : Int) ∧ ((k : Nat) : Int) ≤ 8 by omega)
    | (refine Leaf.mk (show inK _ _ = true from ?_); simp only [inK, Bool.and_eq_true, decide_eq_true_eq]; omega)
    | skip
  · obtain ⟨j, hj⟩ : ∃ j, 8 - k = j + 1 := by
      refine ⟨8 - k - 1, ?_⟩
      rcases Nat.lt_or_ge k 8 with h8 | h8
      · omega
      · rw [show 8 - k = 0 by omega] at h3
        simp only [Int.pow_zero] at h3
        omega
    rw [hj] at h3 h4
    rw [show IntKind.u64.wrap (m / 256) = m / 256 by rw [wrapU64]; omega]
    refine Leaf.mk ⟨(k + 1, m / 256), rfl, ⟨by omega, by dsimp only; omega, ?_, ?_⟩, by dsimp only; omega⟩
    · dsimp only
      rw [show 8 - (k + 1) = j by omega]
      rw [Int.pow_succ] at h3
      exact Int.ediv_lt_of_lt_mul (by decide) h3
    · dsimp only
      rw [h4, widthN, if_pos h, show 8 - (k + 1) = j by omega]; omega
  · have : m = 0 := by omega
    subst this
    have h0 : ∀ f, widthN f 0 = 0 := fun f => by cases f <;> simp [widthN]
    refine Leaf.mk (ret1 (show [IntKind.u8.wrap ((k : Nat) : Int)] ++ layB n (((k : Nat) : Int)).toNat = putSmall n from ?_))
    rw [wrapU8, putSmall, Int.toNat_natCast, h4, h0]
    rw [show ((k : Nat) : Int) % 256 = ((k : Nat) : Int) by omega]; rfl
def getSmall (b : List Int) : Int × Int × Int :=
  if b.length = 0 then (0, 0, 3) else if 8 < b.getD 0 0 then (0, 0, 4) else if (b.length : Int) ≤ b.getD 0 0 then (0, 0, 3) else if 0 < b.getD 0 0 ∧ b.getD 1 0 = 0 then (0, 0, 4)
  else (numB ((b.take (b.getD 0 0 + 1).toNat).drop 1), b.getD 0 0 + 1, 0)
def sGetSmall : PSpec := ⟨[.d BT], [⟨false, [.d (.int .u64)]⟩, ⟨false, [.d (.int .i64)]⟩, ⟨false, [.d (.int .i64)]⟩], fun _ => True, fun x => (((getSmall x.1).1, ()), ((getSmall x.1).2.1, ()), ((getSmall x.1).2.2, ()), ())⟩
theorem fGetSmall : FnOk Tryz.prog 71 := ⟨_, Tryz.func71, by decide, rfl⟩
theorem pGetSmall : PSound Tryz.prog 71 sGetSmall := by
  refine psound (T := tab) (S := (spOf [(93, sNumber.spec (lsOf []))])) (keep := k71) (by kernel_rfl) tabOk (spCons (pOk pNumber fNumber (by decide) lsNil) spNil) (by kernel_rfl) Tryz.func71 (by kernel_rfl) (by decide) fun xs hg hp => ?_
  obtain ⟨xs, ⟨⟩⟩ := xs
  obtain ⟨⟨hl, hx⟩, -⟩ := hg
  change List Int at xs
  have hl := len63 hl
  change xs.length ≤ _ at hl
  change ∀ x ∈ xs, Eng.Good (.int .u8) x at hx
  clear hp
  have hb0 := byte0 hx 0
  show vfun tab _ k71 Tryz.f71 [.sl (.int .u8) xs] [] _
  refine Ev.out ?_
  repeat' (first | ((with_reducible refine Ev.mk ?_); conv => whnf) | (with_reducible refine And.intro ?_ ?_) | (intro h))
  all_goals (try simp only [decide_eq_true_eq, decide_eq_false_iff_not, beq_iff_eq, bne_iff_ne, beq_eq_false_iff_ne, bne_eq_false_iff_eq, Int.toNat_natCast, ge_iff_le, gt_iff_lt, Bool.not_eq_true', Bool.not_eq_false', Int.not_lt, Int.not_le, ne_eq] at *)
  all_goals (try dsimp only [Ty.den, Ty.dflt, BT, sNumber] at *)
  all_goals (try simp only [eq4, ne4, eq3, ne3, eq2, ne2, Prod.eta, List.length_cons, List.length_nil, List.length_append, Nat.zero_add] at *)
  all_goals (try simp (disch := omega) only [wrap64] at *)
  all_goals (try simp only [Int.reduceToNat] at *)
  all_goals (try simp (disch := omega) only [wrap64] at *)
  all_goals try first | exact leafDraw (by kernel_rfl) | exact Leaf.mk trivial | (refine Leaf.mk ?_; omega) | (refine Leaf.mk ?_; unfold maxLen; omega)
  all_goals clear hx
  all_goals (try (refine Leaf.mk ?_; omega))
  all_goals (refine Leaf.mk (ret3 ?_ ?_ ?_) <;> (dsimp only; rw [getSmall]; repeat (first | rw [if_pos (by omega)] | rw [if_neg (by omega)])))
  all_goals (dsimp only; rw [Int.add_comm])
def sGetSmallR : PSpec := sGetSmall
theorem fGetSmallR : FnOk Tryz.prog 75 := ⟨_, Tryz.func75, by decide, rfl⟩
theorem pGetSmallR : PSound Tryz.prog 75 sGetSmallR := by
  refine psound (T := tab) (S := (spOf [(95, sLow.spec (lsOf []))])) (keep := k75) (by kernel_rfl) tabOk (spCons (pOk pLow fLow (by decide) lsNil) spNil) (by kernel_rfl) Tryz.func75 (by kernel_rfl) (by decide) fun xs hg hp => ?_
  obtain ⟨xs, ⟨⟩⟩ := xs
  obtain ⟨⟨hl, hx⟩, -⟩ := hg
  change List Int at xs
  have hl := len63 hl
  change xs.length ≤ _ at hl
  change ∀ x ∈ xs, Eng.Good (.int .u8) x at hx
  clear hp
  have hb0 := byte0 hx 0
  show vfun tab _ k75 Tryz.f75 [.sl (.int .u8) xs] [] _
  refine Ev.out ?_
  repeat' (first | ((with_reducible refine Ev.mk ?_); conv => whnf) | (with_reducible refine And.intro ?_ ?_) | (intro h))
  all_goals (try simp only [decide_eq_true_eq, decide_eq_false_iff_not, beq_iff_eq, bne_iff_ne, beq_eq_false_iff_ne, bne_eq_false_iff_eq, Int.toNat_natCast, ge_iff_le, gt_iff_lt, Bool.not_eq_true', Bool.not_eq_false', Int.not_lt, Int.not_le, ne_eq] at *)
  all_goals (try dsimp only [Ty.den, Ty.dflt, BT, sLow, sNumber] at *)
  all_goals (try simp only [eq4, ne4, eq3, ne3, eq2, ne2, Prod.eta, List.length_cons, List.length_nil, List.length_append, Nat.zero_add] at *)
  all_goals (try simp (disch := omega) only [wrap64] at *)
  all_goals (try simp only [Int.reduceToNat] at *)
  all_goals (try simp (disch := omega) only [wrap64] at *)
  all_goals try first | exact leafDraw (by kernel_rfl) | exact Leaf.mk trivial | (refine Leaf.mk ?_; omega) | (refine Leaf.mk ?_; unfold maxLen; omega)
  all_goals clear hx
  all_goals (try (refine Leaf.mk ?_; omega))
  all_goals (refine Leaf.mk (ret3 ?_ ?_ ?_) <;> (dsimp only; rw [getSmall]; repeat (first | rw [if_pos (by omega)] | rw [if_neg (by omega)])))
  all_goals (dsimp only; rw [Int.add_comm])
end Go.Proofs.YtoedpnniaikfbaaGreat

set_option linter.unusedVariables false
set_option linter.unusedSimpArgs false
set_option maxRecDepth 8000
namespace Go.Proofs.YtoedpnniaikfbaaGreat
open Go.Eng
theorem flat_at {α : Type} {xs : List (List α)} {i : Nat} (h : i < xs.length) : (xs.take (i + 1)).flatten = (xs.take i).flatten ++ xs.getD i [] := by
  rw [take_at [] h, List.flatten_append]; simp
theorem flat_le {α : Type} {xs : List (List α)} (i : Nat) : (xs.take i).flatten.length ≤ xs.flatten.length := by
  conv => rhs; rw [← List.take_append_drop i xs]
  rw [List.flatten_append, List.length_append]; omega
theorem flat_get {α : Type} {xs : List (List α)} {i : Nat} (h : i < xs.length) : (xs.take i).flatten.length + (xs.getD i []).length ≤ xs.flatten.length := by
  have := flat_le (xs := xs) (i + 1)
  rw [flat_at h, List.length_append] at this; exact this
theorem fGrowB : FnOk Tryz.prog 89 := ⟨_, Tryz.func89, by decide, rfl⟩
noncomputable def iGrowB : Eng.Spec := inl tab (spOf []) k89 Tryz.f89
theorem pGrowB : SpecOk Tryz.prog 89 iGrowB := inl_ok tabOk spNil (by kernel_rfl) Tryz.func89 (by kernel_rfl)
end Go.Proofs.YtoedpnniaikfbaaGreat

set_option linter.unusedVariables false
set_option linter.unusedSimpArgs false
namespace Go.Proofs.YtoedpnniaikfbaaGreat
open Go.Eng
theorem take_set (xs : List Int) {m : Nat} (h : m < xs.length) (v : Int) : (xs.take (m + 1)).set m v = xs.take m ++ [v] := by
  rw [List.take_succ_eq_append_getElem h, List.set_append_right _ _ (by simp; omega)]
  simp [List.length_take, Nat.min_eq_left (Nat.le_of_lt h)]
end Go.Proofs.YtoedpnniaikfbaaGreat

set_option linter.unusedVariables false
set_option linter.unusedSimpArgs false
namespace Go.Proofs.YtoedpnniaikfbaaGreat
open Go.Eng
def txt : List Int → List Int → Nat → List Int × Int × Int
  | [], _, _ => ([], 0, 3)
  | c :: r, acc, p => if c = 0 then match r with
      | [] => ([], 0, 3)
      | d :: t => if d = 1 then (acc, ((p + 2 : Nat) : Int), 0) else if d = 255 then txt t (acc ++ [0]) (p + 2) else ([], 0, 4)
    else txt r (acc ++ [c]) (p + 1)
theorem txt_ne {c : Int} (h : ¬ c = 0) (r acc : List Int) (p : Nat) : txt (c :: r) acc p = txt r (acc ++ [c]) (p + 1) := by
  conv => lhs; rw [txt.eq_def]
  exact if_neg h
theorem txt_end {c : Int} (h : c = 0) (acc : List Int) (p : Nat) : txt [c] acc p = ([], 0, 3) := by
  conv => lhs; rw [txt.eq_def]
  exact if_pos h
theorem txt_esc {c : Int} (h : c = 0) (d : Int) (t acc : List Int) (p : Nat) : txt (c :: d :: t) acc p = if d = 1 then (acc, ((p + 2 : Nat) : Int), 0) else if d = 255 then txt t (acc ++ [0]) (p + 2) else ([], 0, 4) := by
  conv => lhs; rw [txt.eq_def]
  exact if_pos h
theorem byte_mem {xs : List Int} (hx : ∀ x ∈ xs, Eng.Good (.int .u8) x) {x : Int} (h : x ∈ xs) : 0 ≤ x ∧ x ≤ 255 := bdu8 (hx x h)
theorem byte_eq {c : Int} (h : 0 ≤ c ∧ c ≤ 255) : (UInt8.ofNat c.toNat == Nat.toUInt8 0) = decide (c = 0) := by
  obtain ⟨n, rfl⟩ := Int.eq_ofNat_of_zero_le h.1
  have h2 : n ≤ 255 := by omega
  clear h
  have : ∀ m : Fin 256, (UInt8.ofNat ((m.val : Nat) : Int).toNat == Nat.toUInt8 0) = decide (((m.val : Nat) : Int) = 0) := by decide +kernel
  exact this ⟨n, by omega⟩
theorem idx_out : ∀ (r : List Int), (∀ x ∈ r, 0 ≤ x ∧ x ≤ 255) →
    (Lib.indexByte (strOfBytes r) (Nat.toUInt8 0) = -1 ∧ ∀ acc p, txt r acc p = ([], 0, 3)) ∨
    (∃ k : Nat, Lib.indexByte (strOfBytes r) (Nat.toUInt8 0) = k ∧ k < r.length ∧ r.getD k 0 = 0 ∧ ∀ acc p, txt r acc p = txt (r.drop k) (acc ++ r.take k) (p + k))
  | [], _ => .inl ⟨rfl, fun acc p => rfl⟩
  | c :: r, h => by
    have hc := byte_eq (h c (by simp))
    have ih := idx_out r (fun x hx => h x (by simp [hx]))
    have e : Lib.indexByte (strOfBytes (c :: r)) (Nat.toUInt8 0) = if c = 0 then 0 else if Lib.indexByte (strOfBytes r) (Nat.toUInt8 0) == -1 then -1 else Lib.indexByte (strOfBytes r) (Nat.toUInt8 0) + 1 := by
      show (if (UInt8.ofNat c.toNat == Nat.toUInt8 0) = true then _ else _) = _
      rw [hc]
      simp only [decide_eq_true_eq]
      rfl
    rw [e]
    by_cases h0 : c = 0
    · rw [if_pos h0]
      exact .inr ⟨0, rfl, by simp, h0, fun acc p => by simp⟩
    · rw [if_neg h0]
      rcases ih with ⟨h1, h2⟩ | ⟨k, h1, h2, h3, h4⟩
      · rw [h1]
        exact .inl ⟨rfl, fun acc p => by rw [txt_ne h0, h2]⟩
      · rw [h1]
        refine .inr ⟨k + 1, ?_, by simpa using h2, by simpa using h3, fun acc p => ?_⟩
        · rw [if_neg (by simp)]; first | rfl | omega
        · rw [txt_ne h0, h4]
          simp only [List.drop_succ_cons, List.take_succ_cons, List.append_assoc, List.singleton_append]
          rw [show p + 1 + k = p + (k + 1) by omega]
theorem tn2 (i k : Nat) : ((i : Int) + (k : Int)).toNat = i + k := by omega
theorem tn3 (i k : Nat) : ((i : Int) + ((k : Int) + 2) - 1).toNat = i + k + 1 := by omega
theorem idx_xs {xs : List Int} (hx : ∀ x ∈ xs, 0 ≤ x ∧ x ≤ 255) {i : Nat} (hi : i ≤ xs.length) :
    (Lib.indexByte (strOfBytes (xs.drop i)) (Nat.toUInt8 0) = -1 ∧ ∀ acc p, txt (xs.drop i) acc p = ([], 0, 3)) ∨
    (∃ k : Nat, Lib.indexByte (strOfBytes (xs.drop i)) (Nat.toUInt8 0) = k ∧ i + k < xs.length ∧ xs.getD (i + k) 0 = 0 ∧ ((xs.take (i + k)).drop i).length = k ∧ ∀ acc p, txt (xs.drop i) acc p = txt (xs.drop (i + k)) (acc ++ (xs.take (i + k)).drop i) (p + k)) := by
  rcases idx_out (xs.drop i) (fun x h => hx x (List.mem_of_mem_drop h)) with h | ⟨k, h1, h2, h3, h4⟩
  · exact .inl h
  · rw [List.length_drop] at h2
    refine .inr ⟨k, h1, by omega, ?_, by rw [List.length_drop, List.length_take]; omega, fun acc p => ?_⟩
    · rw [List.getD_eq_getElem?_getD, List.getElem?_drop] at h3
      rw [List.getD_eq_getElem?_getD]; exact h3
    · rw [h4, List.drop_drop, List.drop_take, Nat.add_sub_cancel_left]
def getText (xs : List Int) : List UInt8 × Int × Int := (strOfBytes (txt xs [] 0).1, (txt xs [] 0).2.1, (txt xs [] 0).2.2)
def sGetText : PSpec := ⟨[.d BT], [⟨false, [.d .str]⟩, ⟨false, [.d (.int .i64)]⟩, ⟨false, [.d (.int .i64)]⟩], fun x => x.1.length ≤ 100000, fun x => (((getText x.1).1, ()), ((getText x.1).2.1, ()), ((getText x.1).2.2, ()), ())⟩
def sGetTextR : PSpec := sGetText
theorem fGetTextR : FnOk Tryz.prog 76 := ⟨_, Tryz.func76, by decide, rfl⟩
theorem pGetTextR : PSound Tryz.prog 76 sGetTextR := by
  refine psound (T := tab) (S := (spOf [])) (keep := k76) (by kernel_rfl) tabOk spNil (by kernel_rfl) Tryz.func76 (by kernel_rfl) (by decide) fun xs hg hp => ?_
  obtain ⟨xs, ⟨⟩⟩ := xs
  obtain ⟨⟨hl, hx⟩, -⟩ := hg
  change List Int at xs
  clear hl
  change xs.length ≤ 100000 at hp
  change ∀ x ∈ xs, Eng.Good (.int .u8) x at hx
  show vfun tab _ k76 Tryz.f76 [.sl (.int .u8) xs] [] _
  refine Ev.out ?_
  repeat' (first | ((with_reducible refine Ev.mk ?_); conv => whnf) | (with_reducible refine And.intro ?_ ?_) | (intro h))
  all_goals (try simp only [decide_eq_true_eq, decide_eq_false_iff_not, beq_iff_eq, bne_iff_ne, beq_eq_false_iff_ne, bne_eq_false_iff_eq, Int.toNat_natCast, ge_iff_le, gt_iff_lt, Bool.not_eq_true', Bool.not_eq_false', Int.not_lt, Int.not_le, ne_eq] at *)
  all_goals (try dsimp only [Ty.den, Ty.dflt, BT] at *)
  all_goals (try simp only [eq4, ne4, eq3, ne3, eq2, ne2, Prod.eta, List.length_cons, List.length_nil, List.length_append, Nat.zero_add] at *)
  all_goals (try simp (disch := omega) only [wrap64] at *)
  all_goals try first | exact leafDraw (by kernel_rfl) | exact Leaf.mk trivial | (refine Leaf.mk ?_; omega) | (refine Leaf.mk ?_; unfold maxLen; omega)
  refine LoopVC.weak [(.slot 5, .nil 5 (.int .u8))] (fun a : Nat × List Int => [(6, .i .i64 a.1)]) (fun a => [(0, .arr 5 (.int .u8) a.2)]) (fun a => a.1 ≤ xs.length ∧ a.2.length ≤ a.1 ∧ txt xs [] 0 = txt (xs.drop a.1) a.2 a.1) (fun a => xs.length - a.1) (0, []) (Ev.mk ?_)
  (conv => whnf)
  refine ⟨Leaf.mk ?_, Leaf.mk ?_, ?_⟩
  · rfl
  · exact ⟨by omega, by simp, rfl⟩
  intro ⟨i, acc⟩ ⟨hi, ha, ht⟩
  dsimp only at hi ha ht
  repeat' (first | ((with_reducible refine Ev.mk ?_); conv => whnf) | (with_reducible refine And.intro ?_ ?_) | (intro h))
  all_goals (try simp only [decide_eq_true_eq, decide_eq_false_iff_not, beq_iff_eq, bne_iff_ne, beq_eq_false_iff_ne, bne_eq_false_iff_eq, Int.toNat_natCast, ge_iff_le, gt_iff_lt, Bool.not_eq_true', Bool.not_eq_false', Int.not_lt, Int.not_le, ne_eq] at *)
  all_goals (try dsimp only [Ty.den, Ty.dflt, BT, sIndexByte] at *)
  all_goals (try simp only [eq4, ne4, eq3, ne3, eq2, ne2, Prod.eta, List.length_cons, List.length_nil, List.length_append, Nat.zero_add] at *)
  all_goals (try simp (disch := omega) only [wrap64] at *)
  all_goals (try simp only [Int.reduceToNat] at *)
  all_goals try first | exact leafDraw (by kernel_rfl) | exact Leaf.mk trivial | (refine Leaf.mk ?_; omega) | (refine Leaf.mk ?_; unfold maxLen; omega)
  · rw [drop_at 0 (by omega), txt_ne h] at ht
    exact Leaf.mk ⟨(i + 1, acc ++ [xs.getD i 0]), rfl, ⟨by dsimp only; omega, by simp; omega, ht⟩, by dsimp only; omega⟩
  · rename_i h0
    rw [drop_at 0 (by omega), List.drop_eq_nil_of_le (by omega), txt_end h0] at ht
    refine Leaf.mk (ret3 ?_ ?_ ?_) <;> (dsimp only [getText]; rw [ht]) <;> rfl
  · rename_i h1 h0
    rw [show ((i : Int) + 1).toNat = i + 1 by omega] at h
    rw [drop_at 0 (by omega), drop_at 0 (show i + 1 < xs.length by omega), txt_esc h1] at ht
    rw [if_pos h] at ht
    refine Leaf.mk (ret3 ?_ ?_ ?_) <;> (dsimp only [getText]; rw [ht]) <;> rfl
  · rename_i h1 h0 hn
    rw [show ((i : Int) + 1).toNat = i + 1 by omega] at h hn
    rw [drop_at 0 (by omega), drop_at 0 (show i + 1 < xs.length by omega), txt_esc h1] at ht
    rw [if_neg hn, if_pos h] at ht
    exact Leaf.mk ⟨(i + 2, acc ++ [0]), by rw [show (i : Int) + 1 + 1 = ((i + 2 : Nat) : Int) by omega]; rfl, ⟨by dsimp only; omega, by simp; omega, ht⟩, by dsimp only; omega⟩
  · rename_i h1 h0 hn
    rw [show ((i : Int) + 1).toNat = i + 1 by omega] at h hn
    rw [drop_at 0 (by omega), drop_at 0 (show i + 1 < xs.length by omega), txt_esc h1] at ht
    rw [if_neg hn, if_neg h] at ht
    refine Leaf.mk (ret3 ?_ ?_ ?_) <;> (dsimp only [getText]; rw [ht]) <;> rfl
  · rw [List.drop_eq_nil_of_le (by omega)] at ht
    refine Leaf.mk (ret3 ?_ ?_ ?_) <;> (dsimp only [getText]; rw [ht]) <;> rfl
theorem fGetText : FnOk Tryz.prog 72 := ⟨_, Tryz.func72, by decide, rfl⟩
theorem pGetText : PSound Tryz.prog 72 sGetText := by
  refine psound (T := tab) (S := (spOf [(94, sIndexByte.spec (lsOf []))])) (keep := k72) (by kernel_rfl) tabOk (spCons (pOk pIndexByte fIndexByte (by decide) lsNil) spNil) (by kernel_rfl) Tryz.func72 (by kernel_rfl) (by decide) fun xs hg hp => ?_
  obtain ⟨xs, ⟨⟩⟩ := xs
  obtain ⟨⟨hl, hx⟩, -⟩ := hg
  change List Int at xs
  clear hl
  change xs.length ≤ 100000 at hp
  change ∀ x ∈ xs, Eng.Good (.int .u8) x at hx
  show vfun tab _ k72 Tryz.f72 [.sl (.int .u8) xs] [] _
  refine Ev.out ?_
  repeat' (first | ((with_reducible refine Ev.mk ?_); conv => whnf) | (with_reducible refine And.intro ?_ ?_) | (intro h))
  all_goals (try simp only [decide_eq_true_eq, decide_eq_false_iff_not, beq_iff_eq, bne_iff_ne, beq_eq_false_iff_ne, bne_eq_false_iff_eq, Int.toNat_natCast, ge_iff_le, gt_iff_lt, Bool.not_eq_true', Bool.not_eq_false', Int.not_lt, Int.not_le, ne_eq] at *)
  all_goals (try dsimp only [Ty.den, Ty.dflt, BT] at *)
  all_goals (try simp only [eq4, ne4, eq3, ne3, eq2, ne2, Prod.eta, List.length_cons, List.length_nil, List.length_append, Nat.zero_add] at *)
  all_goals (try simp (disch := omega) only [wrap64] at *)
  all_goals try first | exact leafDraw (by kernel_rfl) | exact Leaf.mk trivial | (refine Leaf.mk ?_; omega) | (refine Leaf.mk ?_; unfold maxLen; omega)
  refine LoopVC.weak [(.slot 5, .nil 5 (.int .u8))] (fun a : Nat × List Int => [(6, .i .i64 a.1)]) (fun a => [(0, .arr 5 (.int .u8) a.2)]) (fun a => a.1 ≤ xs.length ∧ a.2.length ≤ a.1 ∧ txt xs [] 0 = txt (xs.drop a.1) a.2 a.1) (fun a => xs.length - a.1) (0, []) (Ev.mk ?_)
  (conv => whnf)
  refine ⟨Leaf.mk ?_, Leaf.mk ?_, ?_⟩
  · rfl
  · exact ⟨by omega, by simp, rfl⟩
  intro ⟨i, acc⟩ ⟨hi, ha, ht⟩
  dsimp only at hi ha ht
  have hk := idx_xs (fun x h => byte_mem hx h) hi
  repeat' (first | ((with_reducible refine Ev.mk ?_); conv => whnf) | (with_reducible refine And.intro ?_ ?_) | (intro h))
  all_goals (try dsimp only [sIndexByte] at *)
  all_goals (try simp only [Int.reduceToNat, Int.toNat_natCast, List.take_length] at *)
  all_goals (rcases hk with ⟨k1, k2⟩ | ⟨k, k1, k2, k3, k5, k4⟩ <;> simp only [k1] at *)
  all_goals (try simp only [decide_eq_true_eq, decide_eq_false_iff_not, beq_iff_eq, bne_iff_ne, beq_eq_false_iff_ne, bne_eq_false_iff_eq, Int.toNat_natCast, ge_iff_le, gt_iff_lt, Bool.not_eq_true', Bool.not_eq_false', Int.not_lt, Int.not_le, ne_eq] at *)
  all_goals (try dsimp only [Ty.den, Ty.dflt, BT, sIndexByte] at *)
  all_goals (try simp only [eq4, ne4, eq3, ne3, eq2, ne2, Prod.eta, List.length_cons, List.length_nil, List.length_append, Nat.zero_add] at *)
  all_goals (try simp (disch := omega) only [wrap64] at *)
  all_goals (try simp only [tn2, tn3] at *)
  all_goals try first | exact leafDraw (by kernel_rfl) | exact Leaf.mk trivial | (refine Leaf.mk ?_; omega) | (refine Leaf.mk ?_; unfold maxLen; omega)
  · rw [k2] at ht
    refine Leaf.mk (ret3 ?_ ?_ ?_) <;> (dsimp only [getText]; rw [ht]) <;> rfl
  · rw [k4, drop_at 0 (by omega), List.drop_eq_nil_of_le (by omega), txt_end k3] at ht
    refine Leaf.mk (ret3 ?_ ?_ ?_) <;> (dsimp only [getText]; rw [ht]) <;> rfl
  all_goals (try (refine Leaf.mk ?_; rw [k5]; first | omega | (unfold maxLen; omega)))
  · rw [k4, drop_at 0 (by omega), drop_at 0 (show i + k + 1 < xs.length by omega), txt_esc k3, if_pos h] at ht
    refine Leaf.mk (ret3 ?_ ?_ ?_) <;> (dsimp only [getText]; rw [ht]) <;> first | rfl | (dsimp only; omega)
  · rename_i hn
    rw [k4, drop_at 0 (by omega), drop_at 0 (show i + k + 1 < xs.length by omega), txt_esc k3, if_neg hn, if_pos h] at ht
    refine Leaf.mk ⟨(i + k + 2, acc ++ (xs.take (i + k)).drop i ++ [0]), ?_, ⟨by dsimp only; omega, by dsimp only; simp only [List.length_append, k5, List.length_singleton]; omega, ht⟩, by dsimp only; omega⟩
    rw [show (i : Int) + ((k : Int) + 2) = ((i + k + 2 : Nat) : Int) by omega]; rfl
  · rename_i hn
    rw [k4, drop_at 0 (by omega), drop_at 0 (show i + k + 1 < xs.length by omega), txt_esc k3, if_neg hn, if_neg h] at ht
    refine Leaf.mk (ret3 ?_ ?_ ?_) <;> (dsimp only [getText]; rw [ht]) <;> rfl
  all_goals (rw [List.drop_eq_nil_of_le (by omega)] at ht; refine Leaf.mk (ret3 ?_ ?_ ?_) <;> (dsimp only [getText]; rw [ht]) <;> rfl)
end Go.Proofs.YtoedpnniaikfbaaGreat

set_option linter.unusedVariables false
set_option linter.unusedSimpArgs false
namespace Go.Proofs.YtoedpnniaikfbaaGreat
open Go.Eng
abbrev RP : List RK := [.d BT, .d (.int .i64)]
def sNew : NSpec := ⟨[.d BT], RP, fun x => x.1.length ≤ 100000, fun x => (x.1, 0, ())⟩
theorem fNew : FnOk Tryz.prog 30 := ⟨_, Tryz.func30, by decide, rfl⟩
theorem pNew : NSound Tryz.prog 30 sNew := by
  refine nsound (T := tab) (S := (spOf [(69, sBClone.spec (lsOf []))])) (keep := k30) (by kernel_rfl) tabOk (spCons (pOk pBClone fBClone (by decide) lsNil) spNil) (by kernel_rfl) Tryz.func30 rfl (by kernel_rfl) (by decide) fun xs hg hp => ?_
  obtain ⟨xs, ⟨⟩⟩ := xs
  change List Int at xs
  change xs.length ≤ 100000 at hp
  show vfun tab _ k30 Tryz.f30 [.sl (.int .u8) xs] [] _
  refine Ev.out ?_
  repeat' (first | ((with_reducible refine Ev.mk ?_); conv => whnf) | (with_reducible refine And.intro ?_ ?_) | (intro h))
  all_goals (try simp only [decide_eq_true_eq, decide_eq_false_iff_not, beq_iff_eq, bne_iff_ne, beq_eq_false_iff_ne, bne_eq_false_iff_eq, Int.toNat_natCast, ge_iff_le, gt_iff_lt, Bool.not_eq_true', Bool.not_eq_false', Int.not_lt, Int.not_le, ne_eq] at *)
  all_goals (try dsimp only [Ty.den, Ty.dflt, BT, sBClone] at *)
  all_goals (try simp only [eq4, ne4, eq3, ne3, eq2, ne2, Prod.eta, List.length_cons, List.length_nil, List.length_append, Nat.zero_add] at *)
  all_goals (try simp (disch := omega) only [wrap64] at *)
  all_goals try first | exact leafDraw (by kernel_rfl) | exact Leaf.mk trivial | (refine Leaf.mk ?_; omega) | (refine Leaf.mk ?_; unfold maxLen; omega)
  · exact Leaf.mk rfl
def sState : MSpec := ⟨[.m RP], [⟨false, [.d (.int .i64)]⟩], fun _ => True, fun x => ((x.1.2.1, ()), x.1, ())⟩
theorem fState : FnOk Tryz.prog 70 := ⟨_, Tryz.func70, by decide, rfl⟩
theorem pState : SpecOk Tryz.prog 70 sState.spec := by
  refine mOk (T := tab) (S := (spOf [])) (keep := k70m) tabOk spNil (by kernel_rfl) Tryz.func70 (by kernel_rfl) (by kernel_rfl) (by decide) fun xs hg hp => ?_
  obtain ⟨⟨b, e, ⟨⟩⟩, ⟨⟩⟩ := xs
  change List Int at b
  change Int at e
  show vfunM tab _ k70m Tryz.f70 [.ptr 0 0] [(0, .box [.sl (.int .u8) b, .i .i64 e])] _
  refine Ev.out ?_
  repeat' (first | ((with_reducible refine Ev.mk ?_); conv => whnf) | (with_reducible refine And.intro ?_ ?_) | (intro h))
  all_goals exact Leaf.mk rfl
theorem txt_bd : ∀ (n : Nat) (xs acc : List Int) (p : Nat), xs.length ≤ n → 0 ≤ (txt xs acc p).2.1 ∧ (txt xs acc p).2.1 ≤ ((p + xs.length : Nat) : Int)
  | _, [], acc, p, _ => ⟨Int.le_refl _, by show (0 : Int) ≤ _; omega⟩
  | 0, _ :: _, _, _, h => by simp at h
  | n + 1, c :: r, acc, p, h => by
    simp only [List.length_cons] at h
    by_cases hc : c = 0
    · cases r with
      | nil => rw [txt_end hc]; exact ⟨Int.le_refl _, by show (0 : Int) ≤ _; omega⟩
      | cons d t =>
        simp only [List.length_cons] at h
        rw [txt_esc hc]
        split
        · simp only [List.length_cons]; omega
        · split
          · have := txt_bd n t (acc ++ [0]) (p + 2) (by omega)
            simp only [List.length_cons]; omega
          · exact ⟨Int.le_refl _, by show (0 : Int) ≤ _; omega⟩
    · rw [txt_ne hc]
      have := txt_bd n r (acc ++ [c]) (p + 1) (by omega)
      simp only [List.length_cons]; omega
theorem getText_bd (b : List Int) : 0 ≤ (getText b).2.1 ∧ (getText b).2.1 ≤ (b.length : Int) := by
  have := txt_bd b.length b [] 0 (Nat.le_refl _)
  simpa [getText] using this
theorem putR {α : Type} {u v : α × List Int × Int} (h : u = v) : (some ((u.1, ()), (u.2.1, u.2.2, ()), ()) : Option ((α × Unit) × (List Int × Int × Unit) × Unit)) = some ((v.1, ()), (v.2.1, v.2.2, ()), ()) := by rw [h]
theorem getSmall_bd {b : List Int} (hx : ∀ x ∈ b, Eng.Good (.int .u8) x) : (0 ≤ (getSmall b).2.1 ∧ (getSmall b).2.1 ≤ (b.length : Int)) ∧ 0 ≤ (getSmall b).1 := by
  have h0 := byte0 hx 0
  have hn := numB_bd ((b.take (b.getD 0 0 + 1).toNat).drop 1)
  unfold getSmall
  split
  · simp
  · split
    · simp
    · split
      · simp
      · split
        · simp
        · refine ⟨⟨?_, ?_⟩, hn.1⟩ <;> dsimp only <;> omega
def rdText (b : List Int) (e most : Int) : List UInt8 × List Int × Int :=
  if ¬ e = 0 then ([], b, e) else if ¬ (getText b).2.2 = 0 then ([], b, (getText b).2.2)
  else if (if 0 < most then most else 0) < ((getText b).1.length : Int) then ([], b, 5) else ((getText b).1, b.drop (getText b).2.1.toNat, 0)
def sText : MSpec := ⟨[.m RP, .d (.int .i64)], [⟨false, [.d .str]⟩], fun x => x.1.1.length ≤ 100000, fun x => (((rdText x.1.1 x.1.2.1 x.2.1).1, ()), ((rdText x.1.1 x.1.2.1 x.2.1).2.1, (rdText x.1.1 x.1.2.1 x.2.1).2.2, ()), ())⟩
theorem fText : FnOk Tryz.prog 32 := ⟨_, Tryz.func32, by decide, rfl⟩
theorem pText : SpecOk Tryz.prog 32 sText.spec := by
  refine mOk (T := tab) (S := (spOf [(70, sState.spec), (72, sGetText.spec (lsOf []))])) (keep := k32m) tabOk (spCons (.inl ⟨pState, fState⟩) (spCons (pOk pGetText fGetText (by decide) lsNil) spNil)) (by kernel_rfl) Tryz.func32 (by kernel_rfl) (by kernel_rfl) (by decide) fun xs hg hp => ?_
  obtain ⟨⟨b, e, ⟨⟩⟩, most, ⟨⟩⟩ := xs
  change List Int at b
  change Int at e
  change Int at most
  change b.length ≤ 100000 at hp
  show vfunM tab _ k32m Tryz.f32 [.ptr 0 0, .i .i64 most] [(0, .box [.sl (.int .u8) b, .i .i64 e])] _
  refine Ev.out ?_
  repeat' (first | ((with_reducible refine Ev.mk ?_); conv => whnf) | (with_reducible refine And.intro ?_ ?_) | (intro h))
  all_goals (try simp only [decide_eq_true_eq, decide_eq_false_iff_not, beq_iff_eq, bne_iff_ne, beq_eq_false_iff_ne, bne_eq_false_iff_eq, Int.toNat_natCast, ge_iff_le, gt_iff_lt, Bool.not_eq_true', Bool.not_eq_false', Int.not_lt, Int.not_le, ne_eq] at *)
  all_goals (try dsimp only [Ty.den, Ty.dflt, BT, sState, sGetText] at *)
  all_goals (try simp only [eq4, ne4, eq3, ne3, eq2, ne2, Prod.eta, List.length_cons, List.length_nil, List.length_append, Nat.zero_add] at *)
  all_goals (try simp (disch := omega) only [wrap64] at *)
  all_goals have hb := getText_bd b
  all_goals try first | exact leafDraw (by kernel_rfl) | exact Leaf.mk trivial | (refine Leaf.mk ?_; omega) | (refine Leaf.mk ?_; unfold maxLen; omega)
  · refine Leaf.mk (putR (u := ([], b, e)) (v := rdText b e most) ?_)
    rw [rdText, if_pos h]
  · rename_i h1 h2 h3
    refine Leaf.mk (putR (u := ([], b, 5)) (v := rdText b e most) ?_)
    rw [rdText, if_neg (fun hh => hh h1), if_neg (fun hh => hh h2), if_pos h3]
  · rename_i h1 h2 h3
    rw [List.take_length]
    refine Leaf.mk (putR (u := ((getText b).1, b.drop (getText b).2.1.toNat, e)) (v := rdText b e most) ?_)
    rw [rdText, if_neg (fun hh => hh h1), if_neg (fun hh => hh h2), if_neg (by omega), h1]
  · rename_i h1 h2
    refine Leaf.mk (putR (u := ([], b, (getText b).2.2)) (v := rdText b e most) ?_)
    rw [rdText, if_neg (fun hh => hh h1), if_pos h2]
def rdSmall (b : List Int) (e : Int) : Int × List Int × Int :=
  if ¬ e = 0 then (0, b, e) else if ¬ (getSmall b).2.2 = 0 then (0, b, (getSmall b).2.2)
  else if 1099511627776 < (getSmall b).1 then (0, b, 9) else ((getSmall b).1, b.drop (getSmall b).2.1.toNat, 0)
def sSmall : MSpec := ⟨[.m RP], [⟨false, [.d (.int .i64)]⟩], fun x => x.1.1.length ≤ 100000, fun x => (((rdSmall x.1.1 x.1.2.1).1, ()), ((rdSmall x.1.1 x.1.2.1).2.1, (rdSmall x.1.1 x.1.2.1).2.2, ()), ())⟩
theorem fSmall : FnOk Tryz.prog 31 := ⟨_, Tryz.func31, by decide, rfl⟩
theorem pSmall : SpecOk Tryz.prog 31 sSmall.spec := by
  refine mOk (T := tab) (S := (spOf [(70, sState.spec), (71, sGetSmall.spec (lsOf []))])) (keep := k31m) tabOk (spCons (.inl ⟨pState, fState⟩) (spCons (pOk pGetSmall fGetSmall (by decide) lsNil) spNil)) (by kernel_rfl) Tryz.func31 (by kernel_rfl) (by kernel_rfl) (by decide) fun xs hg hp => ?_
  obtain ⟨⟨b, e, ⟨⟩⟩, ⟨⟩⟩ := xs
  change List Int at b
  change Int at e
  change b.length ≤ 100000 at hp
  obtain ⟨⟨⟨hl, hx⟩, -⟩, -⟩ := hg
  clear hl
  change ∀ x ∈ b, Eng.Good (.int .u8) x at hx
  have hb0 := getSmall_bd hx
  clear hx
  show vfunM tab _ k31m Tryz.f31 [.ptr 0 0] [(0, .box [.sl (.int .u8) b, .i .i64 e])] _
  refine Ev.out ?_
  repeat' (first | ((with_reducible refine Ev.mk ?_); conv => whnf) | (with_reducible refine And.intro ?_ ?_) | (intro h))
  all_goals (try simp only [decide_eq_true_eq, decide_eq_false_iff_not, beq_iff_eq, bne_iff_ne, beq_eq_false_iff_ne, bne_eq_false_iff_eq, Int.toNat_natCast, ge_iff_le, gt_iff_lt, Bool.not_eq_true', Bool.not_eq_false', Int.not_lt, Int.not_le, ne_eq] at *)
  all_goals (try dsimp only [Ty.den, Ty.dflt, BT, sState, sGetSmall] at *)
  all_goals (try simp only [eq4, ne4, eq3, ne3, eq2, ne2, Prod.eta, List.length_cons, List.length_nil, List.length_append, Nat.zero_add] at *)
  all_goals (try simp (disch := omega) only [wrap64] at *)
  all_goals try first | exact leafDraw (by kernel_rfl) | exact Leaf.mk trivial | (refine Leaf.mk ?_; omega) | (refine Leaf.mk ?_; unfold maxLen; omega)
  · refine Leaf.mk (putR (u := (0, b, e)) (v := rdSmall b e) ?_)
    rw [rdSmall, if_pos h]
  · rename_i h1 h2 h3
    refine Leaf.mk (putR (u := (0, b, 9)) (v := rdSmall b e) ?_)
    rw [rdSmall, if_neg (fun hh => hh h1), if_neg (fun hh => hh h2), if_pos h3]
  · rename_i h1 h2 h3
    rw [List.take_length]
    refine Leaf.mk (putR (u := ((getSmall b).1, b.drop (getSmall b).2.1.toNat, e)) (v := rdSmall b e) ?_)
    rw [rdSmall, if_neg (fun hh => hh h1), if_neg (fun hh => hh h2), if_neg (by omega), h1]
  · rename_i h1 h2
    refine Leaf.mk (putR (u := (0, b, (getSmall b).2.2)) (v := rdSmall b e) ?_)
    rw [rdSmall, if_neg (fun hh => hh h1), if_pos h2]
end Go.Proofs.YtoedpnniaikfbaaGreat

set_option linter.unusedVariables false
set_option linter.unusedSimpArgs false
namespace Go.Proofs.YtoedpnniaikfbaaGreat
open Go.Eng
def isB (xs : List Int) : Prop := ∀ x ∈ xs, 0 ≤ x ∧ x ≤ 255
theorem isB_good {xs : List Int} (h : ∀ x ∈ xs, Eng.Good (.int .u8) x) : isB xs := fun x hx => byte_mem h hx
theorem isB_append {xs ys : List Int} (h : isB xs) (k : isB ys) : isB (xs ++ ys) := fun x hx => (List.mem_append.1 hx).elim (h x) (k x)
theorem isB_take {xs : List Int} (h : isB xs) (n : Nat) : isB (xs.take n) := fun x hx => h x (List.mem_of_mem_take hx)
theorem isB_str (s : List UInt8) : isB (bytesOfStr s) := fun x hx => by
  obtain ⟨c, _, rfl⟩ := List.mem_map.1 hx
  have := c.toNat_lt
  omega
theorem isB_put (s : List UInt8) : isB (putText s) := fun x hx => by
  unfold putText putB at hx
  rcases List.mem_append.1 hx with h | h
  · obtain ⟨c, hc, h⟩ := List.mem_flatMap.1 h
    have := isB_str s c hc
    unfold escI at h
    split at h <;> simp at h <;> omega
  · simp at h; omega
theorem isB_lay : ∀ (k : Nat) (n : Int), isB (layB n k)
  | 0, n => fun x hx => by simp [layB] at hx
  | k + 1, n => by
    rw [layB]
    refine isB_append (isB_lay k _) fun x hx => ?_
    simp at hx; omega
theorem isB_small (n : Int) : isB (putSmall n) := fun x hx => by
  unfold putSmall at hx
  rcases List.mem_cons.1 hx with h | h
  · have := widthN_le 8 n; omega
  · exact isB_lay _ _ x h
theorem str_bytes (s : List UInt8) : strOfBytes (bytesOfStr s) = s := by
  unfold strOfBytes bytesOfStr
  rw [List.map_map]
  conv => rhs; rw [← List.map_id s]
  refine List.map_congr_left fun c _ => ?_
  simp
theorem putB_cons (x : Int) (xs : List Int) : putB (x :: xs) = escI x ++ putB xs := by simp [putB]
end Go.Proofs.YtoedpnniaikfbaaGreat
