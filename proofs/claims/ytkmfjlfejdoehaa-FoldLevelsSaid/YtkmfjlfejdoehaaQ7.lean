import Derived.Test.YtkmfjlfejdoehaaTab
import Derived.Test.YtkmfjlfejdoehaaEng4
import Derived.Test.YtkmfjlfejdoehaaEng3
import Derived.Test.YtkmfjlfejdoehaaEng5
import Derived.Shelf.Sort.Plain
import Derived.Test.YtkmfjlfejdoehaaProg
/- Texts, one behind the other. -/
set_option linter.unusedVariables false
set_option linter.unusedSimpArgs false
namespace Go.Proofs.Ytkmfjlfejdoehaa
open Go.Eng
def escI (c : Int) : List Int := if c = 0 then [0, 255] else [c]
def putB (xs : List Int) : List Int := xs.flatMap escI ++ [0, 1]
def putText (s : List UInt8) : List Int := putB (bytesOfStr s)
def layB : Int → Nat → List Int
  | _, 0 => []
  | n, k + 1 => layB (n / 256) k ++ [n % 256]
def widthN : Nat → Int → Nat
  | 0, _ => 0
  | f + 1, n => if 0 < n then widthN f (n / 256) + 1 else 0
end Go.Proofs.Ytkmfjlfejdoehaa

set_option linter.unusedVariables false
set_option linter.unusedSimpArgs false
namespace Go.Proofs.Ytkmfjlfejdoehaa
open Go.Eng
def putSmall (n : Int) : List Int := ((widthN 8 n : Nat) : Int) :: layB n (widthN 8 n)
end Go.Proofs.Ytkmfjlfejdoehaa

set_option linter.unusedVariables false
set_option linter.unusedSimpArgs false
namespace Go.Proofs.Ytkmfjlfejdoehaa
open Go.Eng
theorem take_set (xs : List Int) {m : Nat} (h : m < xs.length) (v : Int) : (xs.take (m + 1)).set m v = xs.take m ++ [v] := by
  rw [List.take_succ_eq_append_getElem h, List.set_append_right _ _ (by simp; omega)]
  simp [List.length_take, Nat.min_eq_left (Nat.le_of_lt h)]
end Go.Proofs.Ytkmfjlfejdoehaa

set_option linter.unusedVariables false
set_option linter.unusedSimpArgs false
namespace Go.Proofs.Ytkmfjlfejdoehaa
open Go.Eng
abbrev VerT : Ty := .pair (.int .i64) (.pair (.int .i64) (.pair .bool .str))
abbrev StT : Ty := .pair .str (.slice VerT)
abbrev Ver := Int × Int × Bool × List UInt8
abbrev Stk := List UInt8 × List Ver
def pend (me : Int) (v : Ver) : Bool := decide (v.2.1 = 0 ∧ v.1 = me ∧ 0 ≤ me)
end Go.Proofs.Ytkmfjlfejdoehaa

set_option linter.unusedVariables false
set_option linter.unusedSimpArgs false
namespace Go.Proofs.Ytkmfjlfejdoehaa
open Go.Eng
def lightV (v : Ver) : Bool := decide (v.2.2.2.length ≤ 100)
def light (s : Stk) : Bool := decide (s.1.length ≤ 100) && (decide (s.2.length ≤ 12) && s.2.all lightV)
def sLight : PSpec := ⟨[.d StT], [⟨false, [.d .bool]⟩], fun _ => True, fun x => ((light x.1, ()), ())⟩
theorem fLight : FnOk Try.prog 18 := ⟨_, Try.func18, by decide, rfl⟩
theorem pLight : PSound Try.prog 18 sLight := by
  refine psound (T := tab) (S := (spOf [])) (keep := k18) (by kernel_rfl) tabOk spNil (by kernel_rfl) Try.func18 (by kernel_rfl) (by decide) fun xs hg hp => ?_
  obtain ⟨⟨key, xs⟩, ⟨⟩⟩ := xs
  obtain ⟨⟨hk, hl, hx⟩, hg⟩ := hg
  change List UInt8 at key
  change List Ver at xs
  have hl := len63 hl
  clear hp
  show vfun tab _ k18 Try.f18 [.agg [.s key, .sl VerT xs]] [] _
  refine Ev.out ?_
  repeat' (first | ((with_reducible refine Ev.mk ?_); conv => whnf) | (with_reducible refine And.intro ?_ ?_) | (intro h))
  all_goals (try simp only [decide_eq_true_eq, decide_eq_false_iff_not, beq_iff_eq, bne_iff_ne, beq_eq_false_iff_ne, bne_eq_false_iff_eq, Int.toNat_natCast, ge_iff_le, gt_iff_lt, Bool.not_eq_true', Bool.not_eq_false', Int.not_lt, Int.not_le, ne_eq] at *)
  all_goals (try dsimp only [Ty.den, Ty.dflt, VerT] at *)
  all_goals (try simp only [eq4, ne4, eq3, ne3, eq2, ne2, Prod.eta, List.length_cons, List.length_nil, List.length_append, Nat.zero_add] at *)
  all_goals (try simp (disch := omega) only [wrap64] at *)
  · refine Leaf.mk (ret1 (?_ : false = light (key, xs)))
    simp only [light]; rw [show decide (key.length ≤ 100) = false by simp; omega]; rfl
  · refine Leaf.mk (ret1 (?_ : false = light (key, xs)))
    simp only [light]; rw [show decide (xs.length ≤ 12) = false by simp; omega]; simp
  · have h0 : light (key, xs) = xs.all lightV := by
      simp only [light]; rw [show decide (xs.length ≤ 12) = true by simp; omega, show decide (key.length ≤ 100) = true by simp; omega]; simp
    refine LoopVC.on (fun i : Nat => [(3, .i .i64 i)]) (fun _ => []) (fun i => i ≤ xs.length ∧ light (key, xs) = (xs.drop i).all lightV) (fun i => xs.length - i) 0 rfl ⟨by omega, by simp [h0]⟩ ?_
    intro i ⟨hi, he⟩
    repeat' (first | ((with_reducible refine Ev.mk ?_); conv => whnf) | (with_reducible refine And.intro ?_ ?_) | (intro h))
    all_goals (try simp only [decide_eq_true_eq, decide_eq_false_iff_not, beq_iff_eq, bne_iff_ne, beq_eq_false_iff_ne, bne_eq_false_iff_eq, Int.toNat_natCast, ge_iff_le, gt_iff_lt, Bool.not_eq_true', Bool.not_eq_false', Int.not_lt, Int.not_le, ne_eq] at *)
    all_goals (try dsimp only [Ty.den, Ty.dflt, VerT] at *)
    all_goals (try simp only [eq4, ne4, eq3, ne3, eq2, ne2, Prod.eta, List.length_cons, List.length_nil, List.length_append, Nat.zero_add] at *)
    all_goals (try simp (disch := omega) only [wrap64] at *)
    all_goals try first | exact leafDraw (by kernel_rfl) | exact Leaf.mk trivial | (refine Leaf.mk ?_; omega) | (refine Leaf.mk ?_; unfold maxLen; omega)
    all_goals first
      | (rw [all_end (by omega)] at he; exact Leaf.mk (ret1 he.symm))
      | (rw [all_hit (0, 0, false, []) (by omega) (by simp only [lightV, decide_eq_false_iff_not]; omega)] at he; exact Leaf.mk (ret1 he.symm))
      | (rw [all_skip (0, 0, false, []) (by omega) (by simp only [lightV, decide_eq_true_eq]; omega)] at he; exact Leaf.mk ⟨i + 1, rfl, ⟨by omega, he⟩, by omega⟩)
def sIndexFunc : PSpec := ⟨[.d (.slice VerT), .lam VerT .bool], [⟨false, [.d (.int .i64)]⟩], fun _ => True, fun x => ((idxF x.2.1 x.1 0, ()), ())⟩
theorem fIndexFunc : FnOk Try.prog 136 := ⟨_, Try.func136, by decide, rfl⟩
theorem pIndexFunc : PSound Try.prog 136 sIndexFunc := by
  refine psound (T := tab) (S := (spOf [])) (keep := k136) (by kernel_rfl) tabOk spNil (by kernel_rfl) Try.func136 (by kernel_rfl) (by decide) fun xs hg hp => ?_
  obtain ⟨xs, p, ⟨⟩⟩ := xs
  obtain ⟨⟨hl, -⟩, -⟩ := hg
  change List Ver at xs
  change Ver → Bool at p
  have hl := len63 hl
  clear hp
  show vfun tab _ k136 Try.f136 [.sl VerT xs, .lam VerT .bool p] [] _
  refine Ev.out ?_
  repeat' (first | ((with_reducible refine Ev.mk ?_); conv => whnf) | (with_reducible refine And.intro ?_ ?_) | (intro h))
  refine LoopVC.on (fun i : Nat => [(8, .i .i64 i)]) (fun _ => []) (fun i => i ≤ xs.length ∧ idxF p xs 0 = idxF p (xs.drop i) i) (fun i => xs.length - i) 0 rfl ⟨by omega, by simp⟩ ?_
  intro i ⟨hi, he⟩
  repeat' (first | ((with_reducible refine Ev.mk ?_); conv => whnf) | (with_reducible refine And.intro ?_ ?_) | (intro h))
  all_goals (try simp only [decide_eq_true_eq, decide_eq_false_iff_not, beq_iff_eq, bne_iff_ne, beq_eq_false_iff_ne, bne_eq_false_iff_eq, Int.toNat_natCast, ge_iff_le, gt_iff_lt, Bool.not_eq_true', Bool.not_eq_false', Int.not_lt, Int.not_le, ne_eq] at *)
  all_goals (try dsimp only [Ty.den, Ty.dflt, VerT] at *)
  all_goals (try simp only [eq4, ne4, eq3, ne3, eq2, ne2, Prod.eta, List.length_cons, List.length_nil, List.length_append, Nat.zero_add] at *)
  all_goals (try simp (disch := omega) only [wrap64] at *)
  all_goals try first | exact leafDraw (by kernel_rfl) | exact Leaf.mk trivial | (refine Leaf.mk ?_; omega) | (refine Leaf.mk ?_; unfold maxLen; omega)
  all_goals first
    | (rw [drop_end (by omega)] at he; exact Leaf.mk (ret1 he.symm))
    | (rw [drop_at (0, 0, false, []) (by omega), idxF, if_pos (by assumption)] at he; exact Leaf.mk (ret1 he.symm))
    | (rw [drop_at (0, 0, false, []) (by omega), idxF, if_neg (by simp_all)] at he; exact Leaf.mk ⟨i + 1, rfl, ⟨by omega, he⟩, by omega⟩)
def roomP (me : Int) (v : Ver) : Bool := (v.2.1 == 0) && (v.1 == me)
def room (s : Stk) (me : Int) : Bool := decide (s.2.length < 8) || s.2.any (roomP me)
def okTs (at' : Int) (v : Ver) : Bool := decide (1 ≤ v.2.1 ∧ v.2.1 ≤ at')
end Go.Proofs.Ytkmfjlfejdoehaa

set_option linter.unusedVariables false
set_option linter.unusedSimpArgs false
namespace Go.Proofs.Ytkmfjlfejdoehaa
open Go.Eng
def sDeleteV : OSpec := ⟨78, VerT, [.d (.int .i64), .d (.int .i64)], fun xs y => 0 ≤ y.1 ∧ y.1 ≤ y.2.1 ∧ y.2.1 ≤ (xs.length : Int) ∧ xs.length ≤ 1000000, fun xs y => xs.take y.1.toNat ++ xs.drop y.2.1.toNat⟩
theorem fDeleteV : FnOk Try.prog 106 := ⟨_, Try.func106, by decide, rfl⟩
theorem pDeleteV : SpecOk Try.prog 106 sDeleteV.spec := by
  refine oOk (T := tab) (S := (spOf [])) (keep := k106) (by kernel_rfl) tabOk spNil (by kernel_rfl) Try.func106 (by kernel_rfl) (by decide) (by decide) fun xs ys k hg hgt hmax hp => ?_
  obtain ⟨i, j, ⟨⟩⟩ := ys
  change List Ver at xs
  change Int at i
  change Int at j
  change 0 ≤ i ∧ i ≤ j ∧ j ≤ (xs.length : Int) ∧ xs.length ≤ 1000000 at hp
  clear hg hgt
  obtain ⟨i, rfl⟩ := Int.eq_ofNat_of_zero_le hp.1
  obtain ⟨j, rfl⟩ := Int.eq_ofNat_of_zero_le (show 0 ≤ j by omega)
  show vfun tab _ k106 Try.f106 [.vw 0 VerT 0 xs.length true, .i .i64 i, .i .i64 j] [(0, .raw 78 VerT (xs.map some ++ List.replicate k (none : Option (Ty.den VerT))))] _
  refine Ev.out ?_
  repeat' (first | ((with_reducible refine Ev.mk ?_); conv => whnf) | (with_reducible refine And.intro ?_ ?_) | (intro h))
  all_goals (try simp only [decide_eq_true_eq, decide_eq_false_iff_not, beq_iff_eq, bne_iff_ne, beq_eq_false_iff_ne, bne_eq_false_iff_eq, Int.toNat_natCast, ge_iff_le, gt_iff_lt, Bool.not_eq_true', Bool.not_eq_false', Int.not_lt, Int.not_le, ne_eq] at *)
  all_goals (try dsimp only [Ty.den, Ty.dflt, VerT] at *)
  all_goals (try simp only [eq4, ne4, eq3, ne3, eq2, ne2, Prod.eta, List.length_cons, List.length_nil, List.length_append, Nat.zero_add] at *)
  all_goals (try simp (disch := omega) only [wrap64] at *)
  all_goals (try simp only [Int.sub_zero, Int.toNat_natCast, Int.toNat_sub, Int.toNat_zero, Nat.zero_add, toNat_add', toNat_addsub, toNat_subadd, List.length_map, List.length_append, List.length_replicate, List.length_take, List.length_drop] at *)
  all_goals first | omega | skip
  all_goals try first | exact leafDraw (by kernel_rfl) | exact Leaf.mk trivial | (refine Leaf.mk ?_; omega) | (refine Leaf.mk ?_; unfold maxLen; omega)
  all_goals first
    | (refine Leaf.mk ?_; unfold maxLen at *; omega)
    | skip
  · refine Leaf.mk (readO_vw.trans (congrArg some (?_ : _ = (xs.take i ++ xs.drop j).map some)))
    obtain rfl : i = j := by omega
    change ((xs.map some ++ List.replicate k none).take _) = _
    rw [raw_take (by omega)]
    simp
  · refine Leaf.mk (?_ : (List.take _ (List.drop _ (xs.map some ++ List.replicate k none))).all Option.isSome = true); rw [raw_cut (by omega)]; exact raw_all
  · refine Leaf.mk (readO_vw.trans (congrArg some (?_ : _ = (xs.take i ++ xs.drop j).map some)))
    change List.take (α := Option Ver) _ _ = _
    rw [Nat.min_eq_left (by omega), raw_cut (by omega), raw_take (by omega), map_some_getD]
    rw [show (xs.drop j).take (xs.length - j) = xs.drop j from List.take_of_length_le (by simp), ← List.map_append]
    rw [List.append_assoc (List.take _ _), List.take_append_of_le_length, List.take_take, Nat.min_self, List.take_append_of_le_length, List.take_of_length_le]
    all_goals simp
    all_goals omega
theorem pOverlapsV : XOk Try.prog 138 xOverlaps := xOverlaps_ok tabOk Try.func138 (by kernel_rfl) (by kernel_rfl) (by kernel_rfl) (by kernel_rfl) (t := 30) rfl rfl (by rfl)
def sInsertV : OSpec := ⟨78, VerT, [.d (.int .i64), .o 78 VerT], fun xs y => 0 ≤ y.1 ∧ y.1 ≤ (xs.length : Int) ∧ xs.length + List.length y.2.1 ≤ 1000000, fun xs y => xs.take y.1.toNat ++ (y.2.1 ++ xs.drop y.1.toNat)⟩
theorem fInsertV : FnOk Try.prog 107 := ⟨_, Try.func107, by decide, rfl⟩
theorem pInsertV : SpecOk Try.prog 107 sInsertV.spec := by
  refine oOk (T := tab) (S := (spOf [(138, xOverlaps)])) (keep := k107) (by kernel_rfl) tabOk (spCons (.inr pOverlapsV) spNil) (by kernel_rfl) Try.func107 (by kernel_rfl) (by decide) (by decide) fun xs ys k hg hgt hmax hp => ?_
  obtain ⟨i, vs, ⟨⟩⟩ := ys
  change List Ver at xs
  change List Ver at vs
  change Int at i
  change 0 ≤ i ∧ i ≤ (xs.length : Int) ∧ xs.length + vs.length ≤ 1000000 at hp
  clear hg hgt
  obtain ⟨i, rfl⟩ := Int.eq_ofNat_of_zero_le hp.1
  show vfun tab _ k107 Try.f107 [.vw 0 VerT 0 xs.length true, .i .i64 i, .own 1] [(0, .raw 78 VerT (xs.map some ++ List.replicate k (none : Option (Ty.den VerT)))), (1, .arr 78 VerT vs)] _
  refine Ev.out ?_
  repeat' (first | ((with_reducible refine Ev.mk ?_); conv => whnf) | (with_reducible refine And.intro ?_ ?_) | (intro h))
  all_goals (try simp only [decide_eq_true_eq, decide_eq_false_iff_not, beq_iff_eq, bne_iff_ne, beq_eq_false_iff_ne, bne_eq_false_iff_eq, Int.toNat_natCast, ge_iff_le, gt_iff_lt, Bool.not_eq_true', Bool.not_eq_false', Int.not_lt, Int.not_le, ne_eq] at *)
  all_goals (try dsimp only [Ty.den, Ty.dflt, VerT] at *)
  all_goals (try simp only [eq4, ne4, eq3, ne3, eq2, ne2, Prod.eta, List.length_cons, List.length_nil, List.length_append, Nat.zero_add] at *)
  all_goals (try simp (disch := omega) only [wrap64] at *)
  all_goals (try simp only [Int.sub_zero, Int.toNat_natCast, Int.toNat_sub, Int.toNat_zero, Nat.zero_add, toNat_add', toNat_addsub, toNat_subadd, List.length_map, List.length_append, List.length_replicate, List.length_take, List.length_drop] at *)
  all_goals first | omega | skip
  all_goals try first | exact leafDraw (by kernel_rfl) | exact Leaf.mk trivial | (refine Leaf.mk ?_; omega) | (refine Leaf.mk ?_; unfold maxLen; omega)
  all_goals first
    | (refine Leaf.mk ?_; unfold maxLen at *; omega)
    | skip
  · refine Leaf.mk (readO_vw.trans (congrArg some (?_ : _ = (xs.take i ++ (vs ++ xs.drop i)).map some)))
    obtain rfl : vs = [] := List.eq_nil_of_length_eq_zero (by omega)
    change ((xs.map some ++ List.replicate k none).take _) = _
    rw [raw_take (by omega)]
    simp
  · refine Leaf.mk (readO_vw.trans (congrArg some (?_ : _ = (xs.take i ++ (vs ++ xs.drop i)).map some)))
    obtain rfl : i = xs.length := by omega
    change (List.take (α := Option Ver) _ _) = _
    rw [raw_take (by omega), tk3 (by simp)]
    simp
  · refine Leaf.mk (readO_vw.trans (congrArg some (?_ : _ = (xs.take i ++ (vs ++ xs.drop i)).map some)))
    obtain rfl : i = xs.length := by omega
    change (List.take (α := Option Ver) _ _) = _
    rw [raw_take (by omega), tk3 (by simp)]
    simp
  · refine Leaf.mk (?_ : (List.take _ (List.drop _ (xs.map some ++ List.replicate k none))).all Option.isSome = true); rw [raw_cut (by omega)]; exact raw_all
  · exact Leaf.mk (readO_vw.trans (congrArg some (ins_new (by omega) (by omega) (by omega))))
  · refine Leaf.mk (?_ : (List.take _ (List.drop _ (xs.map some ++ List.replicate k none))).all Option.isSome = true); rw [raw_cut (by omega)]; exact raw_all
  · exact Leaf.mk (readO_vw.trans (congrArg some (ins_in (by omega) (by omega))))
end Go.Proofs.Ytkmfjlfejdoehaa

set_option linter.unusedVariables false
set_option linter.unusedSimpArgs false
namespace Go.Proofs.Ytkmfjlfejdoehaa
open Go.Eng
abbrev ver0 : Ver := (0, 0, false, [])
def inB (n : Int) : Bool := decide (0 ≤ n ∧ n ≤ 1099511627776)
def sIn : PSpec := ⟨[.d (.int .i64)], [⟨false, [.d .bool]⟩], fun _ => True, fun x => ((inB x.1, ()), ())⟩
def verC (v : Ver) : Int := if 24 < v.2.2.2.length then 5 else if v.2.2.1 = true ∧ v.2.2.2 ≠ [] then 4 else if inB v.1 = true ∧ inB v.2.1 = true then 0 else 9
def ordered1 (v : Ver) : Bool := v.2.1 == 0
def firstZ (xs : List Ver) : Nat := if idxF ordered1 xs 0 < 0 then xs.length else (idxF ordered1 xs 0).toNat
def OrdA (xs : List Ver) (n : Nat) : Prop := ∀ j, j < n → 1 ≤ j → (xs.getD (j - 1) ver0).2.1 ≤ (xs.getD j ver0).2.1
def OrdB : List Ver → List Int → Prop
  | [], _ => True
  | v :: r, l => v.2.1 = 0 ∧ v.1 ∉ l ∧ OrdB r (v.1 :: l)
instance : ∀ (xs : List Ver) (l : List Int), Decidable (OrdB xs l)
  | [], _ => .isTrue trivial
  | v :: r, l => by
    have := instDecidableOrdB r (v.1 :: l)
    unfold OrdB
    exact inferInstance
instance (xs : List Ver) (n : Nat) : Decidable (OrdA xs n) := by unfold OrdA; exact inferInstance
def ordered (xs : List Ver) : Bool := decide (OrdA xs (firstZ xs) ∧ OrdB (xs.drop (firstZ xs)) [])
end Go.Proofs.Ytkmfjlfejdoehaa

set_option linter.unusedVariables false
set_option linter.unusedSimpArgs false
namespace Go.Proofs.Ytkmfjlfejdoehaa
open Go.Eng
def firstBad : List Ver → Int
  | [] => 0
  | v :: r => if verC v = 0 then firstBad r else verC v
def check (s : Stk) : Int := if 16 < s.1.length then 5 else if 8 < s.2.length then 7 else if firstBad s.2 = 0 then (if ordered s.2 = true then 0 else 12) else firstBad s.2
def sCloneV : PSpec := ⟨[.d (.slice VerT)], [⟨false, [.o 78 VerT]⟩], fun x => x.1.length ≤ 1000000, fun x => ((x.1, ()), ())⟩
theorem fCloneV : FnOk Try.prog 68 := ⟨_, Try.func68, by decide, rfl⟩
theorem pCloneV : PSound Try.prog 68 sCloneV := by
  refine psound (T := tab) (S := (spOf [])) (keep := k68) (by kernel_rfl) tabOk spNil (by kernel_rfl) Try.func68 (by kernel_rfl) (by decide) fun xs hg hp => ?_
  obtain ⟨xs, ⟨⟩⟩ := xs
  obtain ⟨⟨hl, -⟩, -⟩ := hg
  change List Ver at xs
  clear hl
  change xs.length ≤ 1000000 at hp
  show vfun tab _ k68 Try.f68 [.sl VerT xs] [] _
  refine Ev.out ?_
  repeat' (first | ((with_reducible refine Ev.mk ?_); conv => whnf) | (with_reducible refine And.intro ?_ ?_) | (intro h))
  all_goals (try simp only [decide_eq_true_eq, decide_eq_false_iff_not, beq_iff_eq, bne_iff_ne, beq_eq_false_iff_ne, bne_eq_false_iff_eq, Int.toNat_natCast, ge_iff_le, gt_iff_lt, Bool.not_eq_true', Bool.not_eq_false', Int.not_lt, Int.not_le, ne_eq] at *)
  all_goals (try dsimp only [Ty.den, Ty.dflt, VerT] at *)
  all_goals (try simp only [eq4, ne4, eq3, ne3, eq2, ne2, Prod.eta, List.length_cons, List.length_nil, List.length_append, Nat.zero_add] at *)
  all_goals (try simp (disch := omega) only [wrap64] at *)
  all_goals try first | exact leafDraw (by kernel_rfl) | exact Leaf.mk trivial | (refine Leaf.mk ?_; omega) | (refine Leaf.mk ?_; unfold maxLen; omega)
  all_goals first
    | (refine Leaf.mk (ret1 (show ([] : List Ver) = xs from ?_)); exact (List.eq_nil_of_length_eq_zero (by omega)).symm)
    | exact Leaf.mk (ret1 rfl)
    | skip
def sOwn : PSpec := ⟨[.d StT], [⟨true, [.d .str, .o 78 VerT]⟩], fun x => List.length x.1.2 ≤ 1000000, fun x => ((x.1.1, (x.1.2, ())), ())⟩
theorem fOwn : FnOk Try.prog 104 := ⟨_, Try.func104, by decide, rfl⟩
theorem pOwn : PSound Try.prog 104 sOwn := by
  refine psound (T := tab) (S := (spOf [(68, sCloneV.spec (lsOf []))])) (keep := k104) (by kernel_rfl) tabOk (spCons (pOk pCloneV fCloneV (by decide) lsNil) spNil) (by kernel_rfl) Try.func104 (by kernel_rfl) (by decide) fun xs hg hp => ?_
  obtain ⟨⟨key, xs⟩, ⟨⟩⟩ := xs
  change List UInt8 at key
  change List Ver at xs
  change xs.length ≤ 1000000 at hp
  show vfun tab _ k104 Try.f104 [.agg [.s key, .sl VerT xs]] [] _
  refine Ev.out ?_
  repeat' (first | ((with_reducible refine Ev.mk ?_); conv => whnf) | (with_reducible refine And.intro ?_ ?_) | (intro h))
  all_goals (try simp only [decide_eq_true_eq, decide_eq_false_iff_not, beq_iff_eq, bne_iff_ne, beq_eq_false_iff_ne, bne_eq_false_iff_eq, Int.toNat_natCast, ge_iff_le, gt_iff_lt, Bool.not_eq_true', Bool.not_eq_false', Int.not_lt, Int.not_le, ne_eq] at *)
  all_goals (try dsimp only [Ty.den, Ty.dflt, VerT, sCloneV] at *)
  all_goals (try simp only [eq4, ne4, eq3, ne3, eq2, ne2, Prod.eta, List.length_cons, List.length_nil, List.length_append, Nat.zero_add] at *)
  all_goals (try simp (disch := omega) only [wrap64] at *)
  all_goals try first | exact leafDraw (by kernel_rfl) | exact Leaf.mk trivial | (refine Leaf.mk ?_; omega) | (refine Leaf.mk ?_; unfold maxLen; omega)
  exact Leaf.mk rfl
def lPlace1 : LSpec := ⟨VerT, .bool, [.bx (.int .i64)], fun v c => roomP c.1 v⟩
theorem fPlace1 : FnOk Try.prog 137 := ⟨_, Try.func137, by decide, rfl⟩
theorem pPlace1 : PSound Try.prog 137 lPlace1.p := by
  refine psound (T := tab) (S := (spOf [])) (keep := k137) (by kernel_rfl) tabOk spNil (by kernel_rfl) Try.func137 (by kernel_rfl) (by decide) fun xs hg hp => ?_
  obtain ⟨⟨txn, ts, gone, val⟩, me, ⟨⟩⟩ := xs
  show vfun tab _ k137 Try.f137 [.agg [.i .i64 txn, .i .i64 ts, .b gone, .s val], .rp [.i .i64 me]] [] _
  refine Ev.out ?_
  repeat' (first | ((with_reducible refine Ev.mk ?_); conv => whnf) | (with_reducible refine And.intro ?_ ?_) | (intro h))
  · exact Leaf.mk (ret1 (show (txn == me) = ((ts == 0) && (txn == me)) by rw [h]; rfl))
  · exact Leaf.mk (ret1 (show false = ((ts == 0) && (txn == me)) by rw [h]; rfl))
def sPlace : PSpec := ⟨[.d StT, .d (.int .i64)], [⟨false, [.d (.int .i64)]⟩], fun _ => True, fun x => ((idxF (roomP x.2.1) x.1.2 0, ()), ())⟩
theorem fPlace : FnOk Try.prog 105 := ⟨_, Try.func105, by decide, rfl⟩
theorem pPlace : PSound Try.prog 105 sPlace := by
  refine psound (T := tab) (S := (spOf [(136, sIndexFunc.spec (lsOf [(137, lPlace1)]))])) (keep := k105) (by kernel_rfl) tabOk (spCons (pOk pIndexFunc fIndexFunc (by decide) ((lsCons ⟨pPlace1, fPlace1⟩ lsNil))) spNil) (by kernel_rfl) Try.func105 (by kernel_rfl) (by decide) fun xs hg hp => ?_
  obtain ⟨⟨key, xs⟩, me, ⟨⟩⟩ := xs
  show vfun tab _ k105 Try.f105 [.agg [.s key, .sl VerT xs], .i .i64 me] [] _
  refine Ev.out ?_
  repeat' (first | ((with_reducible refine Ev.mk ?_); conv => whnf) | (with_reducible refine And.intro ?_ ?_) | (intro h))
  · exact Leaf.mk trivial
  · exact Leaf.mk rfl
theorem retS {k : List UInt8} {xs : List Ver} {s : Stk} (h : (k, xs) = s) : (some ((k, (xs, ())), ()) : Option ((List UInt8 × List Ver × Unit) × Unit)) = some ((s.1, (s.2, ())), ()) := by rw [← h]
def write (s : Stk) (v : Ver) : Stk :=
  if 0 ≤ idxF (roomP v.1) s.2 0 then (s.1, s.2.set (idxF (roomP v.1) s.2 0).toNat (v.1, 0, v.2.2)) else if s.2.length < 8 then (s.1, s.2 ++ [(v.1, 0, v.2.2)]) else s
def sWrite : PSpec := ⟨[.d StT, .d VerT], [⟨true, [.d .str, .o 78 VerT]⟩], fun x => List.length x.1.2 ≤ 100000, fun x => (((write x.1 x.2.1).1, ((write x.1 x.2.1).2, ())), ())⟩
theorem fWrite : FnOk Try.prog 72 := ⟨_, Try.func72, by decide, rfl⟩
theorem pWrite : PSound Try.prog 72 sWrite := by
  refine psound (T := tab) (S := (spOf [(104, sOwn.spec (lsOf [])), (105, sPlace.spec (lsOf []))])) (keep := k72) (by kernel_rfl) tabOk (spCons (pOk pOwn fOwn (by decide) lsNil) (spCons (pOk pPlace fPlace (by decide) lsNil) spNil)) (by kernel_rfl) Try.func72 (by kernel_rfl) (by decide) fun xs hg hp => ?_
  obtain ⟨⟨key, xs⟩, ⟨txn, ts, gone, val⟩, ⟨⟩⟩ := xs
  change List UInt8 at key
  change List Ver at xs
  change xs.length ≤ 100000 at hp
  have hz := idxF_pos (roomP txn) xs 0
  show vfun tab _ k72 Try.f72 [.agg [.s key, .sl VerT xs], .agg [.i .i64 txn, .i .i64 ts, .b gone, .s val]] [] _
  refine Ev.out ?_
  repeat' (first | ((with_reducible refine Ev.mk ?_); conv => whnf) | (with_reducible refine And.intro ?_ ?_) | (intro h))
  all_goals (try simp only [decide_eq_true_eq, decide_eq_false_iff_not, beq_iff_eq, bne_iff_ne, beq_eq_false_iff_ne, bne_eq_false_iff_eq, Int.toNat_natCast, ge_iff_le, gt_iff_lt, Bool.not_eq_true', Bool.not_eq_false', Int.not_lt, Int.not_le, ne_eq] at *)
  all_goals (try dsimp only [Ty.den, Ty.dflt, VerT, sOwn, sPlace] at *)
  all_goals (try simp only [eq4, ne4, eq3, ne3, eq2, ne2, Prod.eta, List.length_cons, List.length_nil, List.length_append, Nat.zero_add] at *)
  all_goals (try simp (disch := omega) only [wrap64] at *)
  all_goals try first | exact leafDraw (by kernel_rfl) | exact Leaf.mk trivial | (refine Leaf.mk ?_; omega) | (refine Leaf.mk ?_; unfold maxLen; omega)
  · refine Leaf.mk (retS (s := write (key, xs) (txn, ts, gone, val)) ?_)
    exact (if_pos h).symm
  · refine Leaf.mk (retS (s := write (key, xs) (txn, ts, gone, val)) ?_)
    exact ((if_neg (Int.not_le.2 ‹idxF (roomP txn) xs 0 < 0›)).trans (if_pos (show xs.length < 8 by omega))).symm
  · refine Leaf.mk (retS (s := write (key, xs) (txn, ts, gone, val)) ?_)
    exact ((if_neg (Int.not_le.2 ‹idxF (roomP txn) xs 0 < 0›)).trans (if_neg (show ¬ xs.length < 8 by omega))).symm
end Go.Proofs.Ytkmfjlfejdoehaa

set_option linter.unusedVariables false
set_option linter.unusedSimpArgs false
set_option maxRecDepth 8000
namespace Go.Proofs.Ytkmfjlfejdoehaa
open Go.Eng
def slotN (ts : Int) (ys : List Ver) : Nat → Nat
  | 0 => 0
  | n + 1 => if (ys.getD n ver0).2.1 = 0 ∨ ts < (ys.getD n ver0).2.1 then slotN ts ys n else n + 1
def cut (xs : List Ver) (i : Nat) : List Ver := xs.take i ++ xs.drop (i + 1)
def commit (s : Stk) (me ts : Int) : Stk :=
  if idxF (roomP me) s.2 0 < 0 ∨ ts < 1 then s else
    (s.1, (cut s.2 (idxF (roomP me) s.2 0).toNat).take (slotN ts (cut s.2 (idxF (roomP me) s.2 0).toNat) (cut s.2 (idxF (roomP me) s.2 0).toNat).length) ++ ([((s.2.getD (idxF (roomP me) s.2 0).toNat ver0).1, ts, (s.2.getD (idxF (roomP me) s.2 0).toNat ver0).2.2)] ++ (cut s.2 (idxF (roomP me) s.2 0).toNat).drop (slotN ts (cut s.2 (idxF (roomP me) s.2 0).toNat) (cut s.2 (idxF (roomP me) s.2 0).toNat).length)))
def sCommit : PSpec := ⟨[.d StT, .d (.int .i64), .d (.int .i64)], [⟨true, [.d .str, .o 78 VerT]⟩], fun x => List.length x.1.2 ≤ 100000, fun x => (((commit x.1 x.2.1 x.2.2.1).1, ((commit x.1 x.2.1 x.2.2.1).2, ())), ())⟩
theorem fCommit : FnOk Try.prog 69 := ⟨_, Try.func69, by decide, rfl⟩
theorem pCommit : PSound Try.prog 69 sCommit := by
  refine psound (T := tab) (S := (spOf [(104, sOwn.spec (lsOf [])), (105, sPlace.spec (lsOf [])), (106, sDeleteV.spec), (107, sInsertV.spec)])) (keep := k69) (by kernel_rfl) tabOk (spCons (pOk pOwn fOwn (by decide) lsNil) (spCons (pOk pPlace fPlace (by decide) lsNil) (spCons (.inl ⟨pDeleteV, fDeleteV⟩) (spCons (.inl ⟨pInsertV, fInsertV⟩) spNil)))) (by kernel_rfl) Try.func69 (by kernel_rfl) (by decide) fun xs hg hp => ?_
  obtain ⟨⟨key, xs⟩, me, ts, ⟨⟩⟩ := xs
  change List UInt8 at key
  change List Ver at xs
  change Int at me
  change Int at ts
  change xs.length ≤ 100000 at hp
  have hz := idxF_pos (roomP me) xs 0
  show vfun tab _ k69 Try.f69 [.agg [.s key, .sl VerT xs], .i .i64 me, .i .i64 ts] [] _
  refine Ev.out ?_
  repeat' (first | ((with_reducible refine Ev.mk ?_); conv => whnf) | (with_reducible refine And.intro ?_ ?_) | (intro h))
  all_goals (try simp only [decide_eq_true_eq, decide_eq_false_iff_not, beq_iff_eq, bne_iff_ne, beq_eq_false_iff_ne, bne_eq_false_iff_eq, Int.toNat_natCast, ge_iff_le, gt_iff_lt, Bool.not_eq_true', Bool.not_eq_false', Int.not_lt, Int.not_le, ne_eq] at *)
  all_goals (try dsimp only [Ty.den, Ty.dflt, VerT, sOwn, sPlace] at *)
  all_goals (try simp only [eq4, ne4, eq3, ne3, eq2, ne2, Prod.eta, List.length_cons, List.length_nil, List.length_append, Nat.zero_add] at *)
  all_goals (try simp (disch := omega) only [wrap64] at *)
  all_goals try first | exact leafDraw (by kernel_rfl) | exact Leaf.mk trivial | (refine Leaf.mk ?_; omega) | (refine Leaf.mk ?_; unfold maxLen; omega)
  · refine Leaf.mk (retS (s := commit (key, xs) me ts) ?_)
    exact (if_pos (.inl h)).symm
  · refine Leaf.mk (retS (s := commit (key, xs) me ts) ?_)
    exact (if_pos (.inr h)).symm
  · refine Leaf.mk (?_ : 0 ≤ idxF (roomP me) xs 0 ∧ idxF (roomP me) xs 0 ≤ idxF (roomP me) xs 0 + 1 ∧ idxF (roomP me) xs 0 + 1 ≤ (xs.length : Int) ∧ xs.length ≤ 1000000)
    omega
  obtain ⟨p, hp0⟩ := Int.eq_ofNat_of_zero_le (show 0 ≤ idxF (roomP me) xs 0 by omega)
  have hpl : p < xs.length := by omega
  have hC : commit (key, xs) me ts = (key, (cut xs p).take (slotN ts (cut xs p) (cut xs p).length) ++ ([((xs.getD p ver0).1, ts, (xs.getD p ver0).2.2)] ++ (cut xs p).drop (slotN ts (cut xs p) (cut xs p).length))) := by
    refine (if_neg (show ¬ (idxF (roomP me) xs 0 < 0 ∨ ts < 1) by omega)).trans ?_
    show (key, _) = _
    dsimp only
    rw [hp0, Int.toNat_natCast]
  have hD : sDeleteV.fn xs (idxF (roomP me) xs 0, idxF (roomP me) xs 0 + 1, ()) = cut xs p := by
    show xs.take (idxF (roomP me) xs 0).toNat ++ xs.drop (idxF (roomP me) xs 0 + 1).toNat = _
    rw [show (idxF (roomP me) xs 0).toNat = p by omega, show (idxF (roomP me) xs 0 + 1).toNat = p + 1 by omega]; rfl
  rw [show (idxF (roomP me) xs 0).toNat = p by omega]
  have hyl : (cut xs p).length ≤ 100000 := by simp [cut]; omega
  generalize hys : cut xs p = ys at *
  refine LoopVC.on (fun n : Nat => [(9, .i .i64 n)]) (fun _ => [(3, .arr 78 VerT ys)]) (fun n => n ≤ ys.length ∧ slotN ts ys ys.length = slotN ts ys n) (fun n => n) ys.length (by rw [← hD]; rfl) ⟨Nat.le_refl _, rfl⟩ ?_
  intro n ⟨hn, he⟩
  repeat' (first | ((with_reducible refine Ev.mk ?_); conv => whnf) | (with_reducible refine And.intro ?_ ?_) | (intro h))
  all_goals (try simp only [decide_eq_true_eq, decide_eq_false_iff_not, beq_iff_eq, bne_iff_ne, beq_eq_false_iff_ne, bne_eq_false_iff_eq, Int.toNat_natCast, ge_iff_le, gt_iff_lt, Bool.not_eq_true', Bool.not_eq_false', Int.not_lt, Int.not_le, ne_eq] at *)
  all_goals (try dsimp only [Ty.den, Ty.dflt, VerT] at *)
  all_goals (try simp only [eq4, ne4, eq3, ne3, eq2, ne2, Prod.eta, List.length_cons, List.length_nil, List.length_append, Nat.zero_add] at *)
  all_goals (try simp (disch := omega) only [wrap64] at *)
  all_goals try first | exact leafDraw (by kernel_rfl) | exact Leaf.mk trivial | (refine Leaf.mk ?_; omega) | (refine Leaf.mk ?_; unfold maxLen; omega)
  all_goals first
    | (refine Leaf.mk (?_ : (0 : Int) ≤ (n : Int) ∧ (n : Int) ≤ (ys.length : Int) ∧ ys.length + 1 ≤ 1000000); omega)
    | skip
  · obtain ⟨m, rfl⟩ : ∃ m, n = m + 1 := ⟨n - 1, by omega⟩
    have e : (((m + 1 : Nat) : Int) - 1).toNat = m := by omega
    rw [e] at h
    rw [show ((m + 1 : Nat) : Int) - 1 = (m : Nat) by omega]
    refine Leaf.mk ⟨m, rfl, ⟨by omega, ?_⟩, by omega⟩
    rw [he, slotN, if_pos (.inl h)]
  · obtain ⟨m, rfl⟩ : ∃ m, n = m + 1 := ⟨n - 1, by omega⟩
    have e : (((m + 1 : Nat) : Int) - 1).toNat = m := by omega
    rw [e] at h
    rw [show ((m + 1 : Nat) : Int) - 1 = (m : Nat) by omega]
    refine Leaf.mk ⟨m, rfl, ⟨by omega, ?_⟩, by omega⟩
    rw [he, slotN, if_pos (.inr h)]
  · obtain ⟨m, rfl⟩ : ∃ m, n = m + 1 := ⟨n - 1, by omega⟩
    have e : (((m + 1 : Nat) : Int) - 1).toNat = m := by omega
    rename_i hnz
    rw [e] at h hnz
    have hs : slotN ts ys ys.length = m + 1 := by
      rw [he, slotN, if_neg (fun hc => ?_)]
      rcases hc with hc | hc
      · exact hnz hc
      · exact absurd hc (Int.not_lt.2 h)
    refine Leaf.mk (retS (s := commit (key, xs) me ts) ?_)
    rw [hC, hs]
    rfl
  · obtain rfl : n = 0 := by omega
    have hs : slotN ts ys ys.length = 0 := by rw [he, slotN]
    refine Leaf.mk (retS (s := commit (key, xs) me ts) ?_)
    rw [hC, hs]
    rfl
def lastN (at' : Int) (xs : List Ver) : Nat → Int
  | 0 => -1
  | n + 1 => if okTs at' (xs.getD n ver0) = true then n else lastN at' xs n
def dropP (at' last : Int) (n : Nat) (v : Ver) : Bool := okTs at' v && ((n : Int) != last || v.2.2.1)
def keepN (at' last : Int) (xs : List Ver) : Nat → List Ver
  | 0 => []
  | n + 1 => keepN at' last xs n ++ (if dropP at' last n (xs.getD n ver0) = true then [] else [xs.getD n ver0])
def prune (s : Stk) (at' : Int) : Stk := (s.1, keepN at' (lastN at' s.2 s.2.length) s.2 s.2.length)
theorem keepN_le (at' last : Int) (xs : List Ver) : ∀ n, (keepN at' last xs n).length ≤ n
  | 0 => Nat.le_refl _
  | n + 1 => by
    have := keepN_le at' last xs n
    unfold keepN
    rw [List.length_append]
    split <;> simp <;> omega
theorem fPrune1 : FnOk Try.prog 110 := ⟨_, Try.func110, by decide, rfl⟩
noncomputable def iPrune1 : Eng.Spec := inl tab (spOf []) k110 Try.f110
theorem pPrune1 : SpecOk Try.prog 110 iPrune1 := inl_ok tabOk spNil (by kernel_rfl) Try.func110 (by kernel_rfl)
theorem fPrune2 : FnOk Try.prog 111 := ⟨_, Try.func111, by decide, rfl⟩
noncomputable def iPrune2 : Eng.Spec := inl tab (spOf [(110, iPrune1)]) k111 Try.f111
theorem pPrune2 : SpecOk Try.prog 111 iPrune2 := inl_ok tabOk (spCons (.inl ⟨pPrune1, fPrune1⟩) spNil) (by kernel_rfl) Try.func111 (by kernel_rfl)
theorem fWithoutV : FnOk Try.prog 108 := ⟨_, Try.func108, by decide, rfl⟩
noncomputable def iWithoutV : Eng.Spec := inl tab (spOf [(111, iPrune2)]) k108 Try.f108
theorem pWithoutV : SpecOk Try.prog 108 iWithoutV := inl_ok tabOk (spCons (.inl ⟨pPrune2, fPrune2⟩) spNil) (by kernel_rfl) Try.func108 (by kernel_rfl)
def sPrune : PSpec := ⟨[.d StT, .d (.int .i64)], [⟨true, [.d .str, .o 78 VerT]⟩], fun x => List.length x.1.2 ≤ 100000, fun x => (((prune x.1 x.2.1).1, ((prune x.1 x.2.1).2, ())), ())⟩
theorem fPrune : FnOk Try.prog 71 := ⟨_, Try.func71, by decide, rfl⟩
theorem pPrune : PSound Try.prog 71 sPrune := by
  refine psound (T := tab) (S := (spOf [(110, iPrune1), (108, iWithoutV)])) (keep := k71) (by kernel_rfl) tabOk (spCons (.inl ⟨pPrune1, fPrune1⟩) (spCons (.inl ⟨pWithoutV, fWithoutV⟩) spNil)) (by kernel_rfl) Try.func71 (by kernel_rfl) (by decide) fun xs hg hp => ?_
  obtain ⟨⟨key, xs⟩, at', ⟨⟩⟩ := xs
  change List UInt8 at key
  change List Ver at xs
  change Int at at'
  change xs.length ≤ 100000 at hp
  show vfun tab _ k71 Try.f71 [.agg [.s key, .sl VerT xs], .i .i64 at'] [] _
  refine Ev.out ?_
  repeat' (first | ((with_reducible refine Ev.mk ?_); conv => whnf) | (with_reducible refine And.intro ?_ ?_) | (intro h))
  all_goals (try simp only [decide_eq_true_eq, decide_eq_false_iff_not, beq_iff_eq, bne_iff_ne, beq_eq_false_iff_ne, bne_eq_false_iff_eq, Int.toNat_natCast, ge_iff_le, gt_iff_lt, Bool.not_eq_true', Bool.not_eq_false', Int.not_lt, Int.not_le, ne_eq] at *)
  all_goals (try dsimp only [Ty.den, Ty.dflt, VerT] at *)
  all_goals (try simp only [eq4, ne4, eq3, ne3, eq2, ne2, Prod.eta, List.length_cons, List.length_nil, List.length_append, Nat.zero_add] at *)
  all_goals (try simp (disch := omega) only [wrap64] at *)
  all_goals try first | exact leafDraw (by kernel_rfl) | exact Leaf.mk trivial | (refine Leaf.mk ?_; omega) | (refine Leaf.mk ?_; unfold maxLen; omega)
  refine LoopVC.on (fun i : Nat => [(13, .i .i64 i)]) (fun i => [(3, .box [.i .i64 (lastN at' xs i)])]) (fun i => i ≤ xs.length) (fun i => xs.length - i) 0 rfl (by omega) ?_
  intro i hi
  repeat' (first | ((with_reducible refine Ev.mk ?_); conv => whnf) | (with_reducible refine And.intro ?_ ?_) | (intro h))
  all_goals (try simp only [decide_eq_true_eq, decide_eq_false_iff_not, beq_iff_eq, bne_iff_ne, beq_eq_false_iff_ne, bne_eq_false_iff_eq, Int.toNat_natCast, ge_iff_le, gt_iff_lt, Bool.not_eq_true', Bool.not_eq_false', Int.not_lt, Int.not_le, ne_eq] at *)
  all_goals (try dsimp only [Ty.den, Ty.dflt, VerT] at *)
  all_goals (try simp only [eq4, ne4, eq3, ne3, eq2, ne2, Prod.eta, List.length_cons, List.length_nil, List.length_append, Nat.zero_add] at *)
  all_goals (try simp (disch := omega) only [wrap64] at *)
  all_goals try first | exact leafDraw (by kernel_rfl) | exact Leaf.mk trivial | (refine Leaf.mk ?_; omega) | (refine Leaf.mk ?_; unfold maxLen; omega)
  · refine Leaf.mk ⟨i + 1, ?_, by omega, by omega⟩
    rw [lastN, if_pos (show okTs at' (xs.getD i ver0) = true from decide_eq_true ⟨‹_›, ‹_›⟩)]; rfl
  · refine Leaf.mk ⟨i + 1, ?_, by omega, by omega⟩
    rw [lastN, if_neg (show ¬ okTs at' (xs.getD i ver0) = true from fun hc => by have := of_decide_eq_true hc; dsimp only [ver0] at *; omega)]; rfl
  · refine Leaf.mk ⟨i + 1, ?_, by omega, by omega⟩
    rw [lastN, if_neg (show ¬ okTs at' (xs.getD i ver0) = true from fun hc => by have := of_decide_eq_true hc; dsimp only [ver0] at *; omega)]; rfl
  have hil : i = xs.length := by omega
  clear h hi
  subst hil
  obtain ⟨last, hlast⟩ : ∃ last, lastN at' xs xs.length = last := ⟨_, rfl⟩
  have hP : prune (key, xs) at' = (key, keepN at' last xs xs.length) := by rw [← hlast]; rfl
  rw [hlast]
  refine LoopVC.weak [(.slot 5, .nil 78 VerT)] (fun i : Nat => [(10, .i .i64 i)]) (fun i => [(29, .arr 78 VerT (keepN at' last xs i))]) (fun i => i ≤ xs.length) (fun i => xs.length - i) 0 (Ev.mk ?_)
  (conv => whnf)
  refine ⟨Leaf.mk rfl, Leaf.mk ?_, ?_⟩
  · omega
  intro i hi
  have hk := keepN_le at' last xs i
  repeat' (first | ((with_reducible refine Ev.mk ?_); conv => whnf) | (with_reducible refine And.intro ?_ ?_) | (intro h))
  all_goals (try simp only [decide_eq_true_eq, decide_eq_false_iff_not, beq_iff_eq, bne_iff_ne, beq_eq_false_iff_ne, bne_eq_false_iff_eq, Int.toNat_natCast, ge_iff_le, gt_iff_lt, Bool.not_eq_true', Bool.not_eq_false', Int.not_lt, Int.not_le, ne_eq] at *)
  all_goals (try dsimp only [Ty.den, Ty.dflt, VerT] at *)
  all_goals (try simp only [eq4, ne4, eq3, ne3, eq2, ne2, Prod.eta, List.length_cons, List.length_nil, List.length_append, Nat.zero_add] at *)
  all_goals (try simp (disch := omega) only [wrap64] at *)
  all_goals try first | exact leafDraw (by kernel_rfl) | exact Leaf.mk trivial | (refine Leaf.mk ?_; omega) | (refine Leaf.mk ?_; unfold maxLen; omega)
  all_goals first
    | (have hil : i = xs.length := by omega
       subst hil
       refine Leaf.mk (retS (s := prune (key, xs) at') ?_)
       rw [hP])
    | (refine Leaf.mk ⟨i + 1, ?_, by omega, by omega⟩
       rw [keepN]
       first
       | (rw [if_pos (show dropP at' last i (xs.getD i ver0) = true from ?_), List.append_nil]
          · rfl
          · simp only [dropP, okTs, ver0, Bool.and_eq_true, Bool.or_eq_true, decide_eq_true_eq, bne_iff_ne]
            first | exact ⟨⟨‹_›, ‹_›⟩, .inl ‹_›⟩ | exact ⟨⟨‹_›, ‹_›⟩, .inr ‹_›⟩)
       | (rw [if_neg (show ¬ dropP at' last i (xs.getD i ver0) = true from ?_)]
          · rfl
          · simp only [dropP, okTs, ver0, Bool.and_eq_true, Bool.or_eq_true, decide_eq_true_eq, bne_iff_ne]
            intro hc
            first | omega | (rcases hc.2 with hc | hc; exact hc ‹_›; rw [hc] at h; cases h)))
end Go.Proofs.Ytkmfjlfejdoehaa

set_option linter.unusedVariables false
set_option linter.unusedSimpArgs false
set_option maxRecDepth 8000
namespace Go.Proofs.Ytkmfjlfejdoehaa
open Go.Eng
def sameS (a b : Stk) : Bool := decide (a = b)
def sSSame : PSpec := ⟨[.d StT, .d StT], [⟨false, [.d .bool]⟩], fun _ => True, fun x => ((sameS x.1 x.2.1, ()), ())⟩
def sSSameR : PSpec := sSSame
theorem fSSameR : FnOk Try.prog 14 := ⟨_, Try.func14, by decide, rfl⟩
theorem pSSameR : PSound Try.prog 14 sSSameR := by
  refine psound (T := tab) (S := (spOf [])) (keep := k14) (by kernel_rfl) tabOk spNil (by kernel_rfl) Try.func14 (by kernel_rfl) (by decide) fun xs hg hp => ?_
  obtain ⟨⟨k, xs⟩, ⟨k2, ys⟩, ⟨⟩⟩ := xs
  obtain ⟨⟨-, hl, -⟩, ⟨-, hl2, -⟩, -⟩ := hg
  have hl := len63 hl
  have hl2 := len63 hl2
  change List UInt8 at k k2
  change List Ver at xs ys
  change xs.length ≤ _ at hl
  change ys.length ≤ _ at hl2
  clear hp
  show vfun tab _ k14 Try.f14 [.agg [.s k, .sl VerT xs], .agg [.s k2, .sl VerT ys]] [] _
  refine Ev.out ?_
  repeat' (first | ((with_reducible refine Ev.mk ?_); conv => whnf) | (with_reducible refine And.intro ?_ ?_) | (intro h))
  all_goals (try simp only [decide_eq_true_eq, decide_eq_false_iff_not, beq_iff_eq, bne_iff_ne, beq_eq_false_iff_ne, bne_eq_false_iff_eq, Int.toNat_natCast, ge_iff_le, gt_iff_lt, Bool.not_eq_true', Bool.not_eq_false', Int.not_lt, Int.not_le, ne_eq] at *)
  all_goals (try dsimp only [Ty.den, Ty.dflt, VerT] at *)
  all_goals (try simp only [eq4, ne4, eq3, ne3, eq2, ne2, Prod.eta, List.length_cons, List.length_nil, List.length_append, Nat.zero_add] at *)
  all_goals (try simp (disch := omega) only [wrap64] at *)
  all_goals try first | exact leafDraw (by kernel_rfl) | exact Leaf.mk trivial | (refine Leaf.mk ?_; omega) | (refine Leaf.mk ?_; unfold maxLen; omega)
  all_goals try first
    | exact Leaf.mk (ret1 (show false = decide ((k, xs) = (k2, ys)) by rw [eq_comm, decide_eq_false_iff_not]; intro hc; exact h (congrArg Prod.fst hc)))
    | exact Leaf.mk (ret1 (show false = decide ((k, xs) = (k2, ys)) by rw [eq_comm, decide_eq_false_iff_not]; intro hc; exact h (congrArg (fun q => ((List.length (α := Ver) (Prod.snd q) : Nat) : Int)) hc)))
  refine LoopVC.on (fun i : Nat => [(5, .i .i64 i)]) (fun _ => []) (fun i => i ≤ xs.length ∧ xs.take i = ys.take i) (fun i => xs.length - i) 0 rfl ⟨by omega, by simp⟩ ?_
  intro i ⟨hi, he⟩
  repeat' (first | ((with_reducible refine Ev.mk ?_); conv => whnf) | (with_reducible refine And.intro ?_ ?_) | (intro h))
  all_goals (try simp only [decide_eq_true_eq, decide_eq_false_iff_not, beq_iff_eq, bne_iff_ne, beq_eq_false_iff_ne, bne_eq_false_iff_eq, Int.toNat_natCast, ge_iff_le, gt_iff_lt, Bool.not_eq_true', Bool.not_eq_false', Int.not_lt, Int.not_le, ne_eq] at *)
  all_goals (try dsimp only [Ty.den, Ty.dflt, VerT] at *)
  all_goals (try simp only [eq4, ne4, eq3, ne3, eq2, ne2, Prod.eta, List.length_cons, List.length_nil, List.length_append, Nat.zero_add] at *)
  all_goals (try simp (disch := omega) only [wrap64] at *)
  all_goals try first | exact leafDraw (by kernel_rfl) | exact Leaf.mk trivial | (refine Leaf.mk ?_; omega) | (refine Leaf.mk ?_; unfold maxLen; omega)
  all_goals first
    | exact Leaf.mk (ret1 (show false = decide ((k, xs) = (k2, ys)) by rw [eq_comm, decide_eq_false_iff_not]; intro hc; exact same_not ver0 h (congrArg Prod.snd hc)))
    | exact Leaf.mk ⟨i + 1, rfl, ⟨by omega, same_step ver0 (by omega) he (by omega) h⟩, by omega⟩
    | exact Leaf.mk (ret1 (show true = decide ((k, xs) = (k2, ys)) by rw [eq_comm, decide_eq_true_eq]; rw [same_end (by omega) he (by omega)]; congr 1))
end Go.Proofs.Ytkmfjlfejdoehaa

set_option linter.unusedVariables false
set_option linter.unusedSimpArgs false
set_option maxRecDepth 8000
namespace Go.Proofs.Ytkmfjlfejdoehaa
open Go.Eng
def putV (v : Ver) : List Int := putSmall v.1 ++ (putSmall v.2.1 ++ ((if v.2.2.1 = true then 1 else 0) :: putText v.2.2.2))
def putS (s : Stk) : List Int := putText s.1 ++ (putSmall s.2.length ++ s.2.flatMap putV)
end Go.Proofs.Ytkmfjlfejdoehaa

set_option linter.unusedVariables false
set_option linter.unusedSimpArgs false
set_option maxRecDepth 8000
set_option maxHeartbeats 4000000
namespace Go.Proofs.Ytkmfjlfejdoehaa
open Go.Eng
def putR11 (s : Stk) : List Int × Int := if check s = 0 then (putS s, 0) else ([], check s)
end Go.Proofs.Ytkmfjlfejdoehaa

set_option linter.unusedVariables false
set_option linter.unusedSimpArgs false
namespace Go.Proofs.Ytkmfjlfejdoehaa
open Go.Eng
def rel (me at' : Int) (v : Ver) : Bool := pend me v || okTs at' v
end Go.Proofs.Ytkmfjlfejdoehaa

set_option linter.unusedVariables false
set_option linter.unusedSimpArgs false
set_option maxRecDepth 8000
set_option maxHeartbeats 4000000
namespace Go.Proofs.Ytkmfjlfejdoehaa
open Go.Eng
def abort (s : Stk) (me : Int) : Stk := (s.1, s.2.filter (fun v => !roomP me v))
theorem fAbort1 : FnOk Try.prog 109 := ⟨_, Try.func109, by decide, rfl⟩
noncomputable def iAbort1 : Eng.Spec := inl tab (spOf []) k109 Try.f109
theorem pAbort1 : SpecOk Try.prog 109 iAbort1 := inl_ok tabOk spNil (by kernel_rfl) Try.func109 (by kernel_rfl)
theorem fWithoutA : FnOk Try.prog 108 := ⟨_, Try.func108, by decide, rfl⟩
noncomputable def iWithoutA : Eng.Spec := inl tab (spOf [(109, iAbort1)]) k108 Try.f108
theorem pWithoutA : SpecOk Try.prog 108 iWithoutA := inl_ok tabOk (spCons (.inl ⟨pAbort1, fAbort1⟩) spNil) (by kernel_rfl) Try.func108 (by kernel_rfl)
def sAbort : PSpec := ⟨[.d StT, .d (.int .i64)], [⟨true, [.d .str, .o 78 VerT]⟩], fun x => List.length x.1.2 ≤ 100000, fun x => (((abort x.1 x.2.1).1, ((abort x.1 x.2.1).2, ())), ())⟩
theorem fAbort : FnOk Try.prog 70 := ⟨_, Try.func70, by decide, rfl⟩
theorem pAbort : PSound Try.prog 70 sAbort := by
  refine psound (T := tab) (S := (spOf [(108, iWithoutA)])) (keep := k70) (by kernel_rfl) tabOk (spCons (.inl ⟨pWithoutA, fWithoutA⟩) spNil) (by kernel_rfl) Try.func70 (by kernel_rfl) (by decide) fun xs hg hp => ?_
  obtain ⟨⟨key, xs⟩, me, ⟨⟩⟩ := xs
  change List UInt8 at key
  change List Ver at xs
  change Int at me
  change xs.length ≤ 100000 at hp
  show vfun tab _ k70 Try.f70 [.agg [.s key, .sl VerT xs], .i .i64 me] [] _
  refine Ev.out ?_
  repeat' (first | ((with_reducible refine Ev.mk ?_); conv => whnf) | (with_reducible refine And.intro ?_ ?_) | (intro h))
  all_goals (try simp only [decide_eq_true_eq, decide_eq_false_iff_not, beq_iff_eq, bne_iff_ne, beq_eq_false_iff_ne, bne_eq_false_iff_eq, Int.toNat_natCast, ge_iff_le, gt_iff_lt, Bool.not_eq_true', Bool.not_eq_false', Int.not_lt, Int.not_le, ne_eq] at *)
  all_goals (try dsimp only [Ty.den, Ty.dflt, VerT] at *)
  all_goals (try simp only [eq4, ne4, eq3, ne3, eq2, ne2, Prod.eta, List.length_cons, List.length_nil, List.length_append, Nat.zero_add] at *)
  all_goals (try simp (disch := omega) only [wrap64] at *)
  all_goals try first | exact leafDraw (by kernel_rfl) | exact Leaf.mk trivial | (refine Leaf.mk ?_; omega) | (refine Leaf.mk ?_; unfold maxLen; omega)
  refine LoopVC.weak [(.slot 5, .nil 78 VerT)] (fun i : Nat => [(10, .i .i64 i)]) (fun i => [(27, .arr 78 VerT ((xs.take i).filter (fun v => !roomP me v)))]) (fun i => i ≤ xs.length) (fun i => xs.length - i) 0 (Ev.mk ?_)
  (conv => whnf)
  refine ⟨Leaf.mk rfl, Leaf.mk ?_, ?_⟩
  · omega
  intro i hi
  have hk := length_filter_take (xs := xs) (i := i) (p := fun v => !roomP me v)
  repeat' (first | ((with_reducible refine Ev.mk ?_); conv => whnf) | (with_reducible refine And.intro ?_ ?_) | (intro h))
  all_goals (try simp only [decide_eq_true_eq, decide_eq_false_iff_not, beq_iff_eq, bne_iff_ne, beq_eq_false_iff_ne, bne_eq_false_iff_eq, Int.toNat_natCast, ge_iff_le, gt_iff_lt, Bool.not_eq_true', Bool.not_eq_false', Int.not_lt, Int.not_le, ne_eq] at *)
  all_goals (try dsimp only [Ty.den, Ty.dflt, VerT] at *)
  all_goals (try simp only [eq4, ne4, eq3, ne3, eq2, ne2, Prod.eta, List.length_cons, List.length_nil, List.length_append, Nat.zero_add] at *)
  all_goals (try simp (disch := omega) only [wrap64] at *)
  all_goals try first | exact leafDraw (by kernel_rfl) | exact Leaf.mk trivial | (refine Leaf.mk ?_; omega) | (refine Leaf.mk ?_; unfold maxLen; omega)
  all_goals have hk := length_filter_take (xs := xs) (i := i) (p := fun v => !roomP me v)
  all_goals first
    | exact Leaf.mk (show (((xs.take i).filter (fun v => !roomP me v)).length + 1) * 40 ≤ 140737488355328 by omega)
    | exact Leaf.mk (show ((xs.take i).filter (fun v => !roomP me v)).length + 1 ≤ maxLen by unfold maxLen; omega)
    | (have hil : i = xs.length := by omega
       subst hil
       refine Leaf.mk (retS (s := abort (key, xs) me) ?_)
       rw [abort, List.take_length])
    | (refine Leaf.mk ⟨i + 1, ?_, by omega, by omega⟩
       rw [filter_at ver0 (by omega)]
       first
       | (rw [if_pos (show (!roomP me (xs.getD i ver0)) = true from ?_)]
          · rfl
          · rw [Bool.not_eq_true', ← Bool.not_eq_true]
            intro hc
            simp only [roomP, ver0, Bool.and_eq_true, beq_iff_eq] at hc
            first | exact h hc.1 | exact h hc.2)
       | (rw [if_neg (show ¬ (!roomP me (xs.getD i ver0)) = true from ?_), List.append_nil]
          · rfl
          · rw [Bool.not_eq_true', Bool.not_eq_false]
            simp only [roomP, ver0, Bool.and_eq_true, beq_iff_eq]
            exact ⟨‹_›, ‹_›⟩))
theorem light_of {s : Stk} (h : light s = true) : s.1.length ≤ 100 ∧ s.2.length ≤ 12 := by
  unfold light at h
  rw [Bool.and_eq_true, Bool.and_eq_true] at h
  exact ⟨of_decide_eq_true h.1, of_decide_eq_true h.2.1⟩
end Go.Proofs.Ytkmfjlfejdoehaa

set_option linter.unusedVariables false
set_option linter.unusedSimpArgs false
set_option maxRecDepth 8000
set_option maxHeartbeats 4000000
namespace Go.Proofs.Ytkmfjlfejdoehaa
open Go.Eng
def one (s : Stk) : List Int := putSmall ((putR11 s).1.length : Nat) ++ (putR11 s).1
end Go.Proofs.Ytkmfjlfejdoehaa

set_option linter.unusedVariables false
set_option linter.unusedSimpArgs false
set_option maxRecDepth 8000
set_option maxHeartbeats 4000000
namespace Go.Proofs.Ytkmfjlfejdoehaa
open Go.Eng
abbrev stk0 : Stk := ([], [])
def Up (l : List Stk) (n : Nat) : Prop := ∀ j, j < n → 1 ≤ j → (l.getD (j - 1) stk0).1 < (l.getD j stk0).1
instance (l : List Stk) (n : Nat) : Decidable (Up l n) := by unfold Up; infer_instance
abbrev SsT : Ty := .slice StT
end Go.Proofs.Ytkmfjlfejdoehaa

set_option linter.unusedVariables false
set_option linter.unusedSimpArgs false
set_option maxRecDepth 8000
set_option maxHeartbeats 4000000
namespace Go.Proofs.Ytkmfjlfejdoehaa
open Go.Eng
set_option synthInstance.maxHeartbeats 400000
instance decVerI : DecidableEq Ver := inferInstanceAs (DecidableEq (Int × Int × Bool × List UInt8))
instance decStk : DecidableEq Stk := inferInstanceAs (DecidableEq (List UInt8 × List Ver))
end Go.Proofs.Ytkmfjlfejdoehaa

set_option linter.unusedVariables false
set_option linter.unusedSimpArgs false
set_option maxRecDepth 8000
set_option maxHeartbeats 4000000
namespace Go.Proofs.Ytkmfjlfejdoehaa
open Go.Eng
def cstep {α : Type} [DecidableEq α] (acc : List α) (x : α) : List α := if acc.getLast? = some x then acc else acc ++ [x]
def compL {α : Type} [DecidableEq α] (l : List α) : List α := l.foldl cstep []
section
variable {α : Type} [DecidableEq α]
theorem compL_snoc (l : List α) (x : α) : compL (l ++ [x]) = cstep (compL l) x := by rw [compL, List.foldl_append]; rfl
theorem compL_rev : ∀ (n : Nat) (l : List α), l.length = n → (compL l).getLast? = l.getLast? ∧ (compL l).length ≤ l.length
  | 0, l, h => by rw [List.eq_nil_of_length_eq_zero h]; exact ⟨rfl, Nat.le_refl _⟩
  | n + 1, l, h => by
    have hne : l ≠ [] := by rintro rfl; simp at h
    rw [← List.dropLast_concat_getLast hne]
    have h3 : l.dropLast.length = l.length - 1 := List.length_dropLast
    have ih := compL_rev n l.dropLast (by omega)
    rw [compL_snoc, cstep]
    split
    · rename_i hs
      rw [hs, List.length_append]; exact ⟨by simp, by have := ih.2; simp; omega⟩
    · rw [List.length_append, List.length_append]; exact ⟨by simp, by have := ih.2; simp; omega⟩
theorem compL_last (l : List α) : (compL l).getLast? = l.getLast? := (compL_rev _ l rfl).1
theorem compL_len (l : List α) : (compL l).length ≤ l.length := (compL_rev _ l rfl).2
theorem compL_short {l : List α} (h : l.length < 2) : compL l = l := by
  match l, h with
  | [], _ => rfl
  | [x], _ => rfl
theorem compL_step (d : α) {xs : List α} {n : Nat} (h1 : 1 ≤ n) (h : n < xs.length) : compL (xs.take (n + 1)) = if xs.getD (n - 1) d = xs.getD n d then compL (xs.take n) else compL (xs.take n) ++ [xs.getD n d] := by
  rw [take_at d h, compL_snoc, cstep, compL_last]
  have e : (xs.take n).getLast? = some (xs.getD (n - 1) d) := by
    rw [List.getLast?_eq_getElem?, List.length_take, Nat.min_eq_left (by omega), List.getElem?_take, if_pos (by omega), List.getElem?_eq_getElem (by omega)]
    simp [List.getD, show n - 1 < xs.length by omega]
  rw [e]
  simp only [Option.some.injEq]
theorem compL_eq (d : α) {xs : List α} {n : Nat} (h1 : 1 ≤ n) (h : n < xs.length) (he : xs.getD n d = xs.getD (n - 1) d) : compL (xs.take (n + 1)) = compL (xs.take n) := by
  rw [compL_step d h1 h, if_pos he.symm]
theorem compL_ne (d : α) {xs : List α} {n : Nat} (h1 : 1 ≤ n) (h : n < xs.length) (he : ¬ xs.getD n d = xs.getD (n - 1) d) : compL (xs.take (n + 1)) = compL (xs.take n) ++ [xs.getD n d] := by
  rw [compL_step d h1 h, if_neg (fun hc => he hc.symm)]
end
structure CF {α : Type} [DecidableEq α] (xs : List α) (k : Nat) (zs : List (Option α)) (i j : Nat) : Prop where
  len : zs.length = xs.length + k
  cnt : i = (compL (xs.take j)).length
  lt : i < j
  le : j ≤ xs.length
  front : zs.take i = (compL (xs.take j)).map some
  rest : zs.drop (j - 1) = (xs.map some ++ List.replicate k none).drop (j - 1)
section
variable {α : Type} [DecidableEq α] {xs : List α} {k : Nat} {zs : List (Option α)} {i j : Nat}
theorem CF.get (q : CF xs k zs i j) (d : α) {m : Nat} (h : j - 1 ≤ m) (h2 : m < xs.length) : zs.getD m none = some (xs.getD m d) := by
  rw [← raw_getD (k := k) d h2, List.getD_eq_getElem?_getD, List.getD_eq_getElem?_getD]
  have := congrArg (·[m - (j - 1)]?) q.rest
  simp only [List.getElem?_drop, show j - 1 + (m - (j - 1)) = m by omega] at this
  rw [this]
theorem CF.first (d : α) {n : Nat} (h1 : 1 ≤ n) (h : n < xs.length) (hc : compL (xs.take n) = xs.take n) (he : xs.getD n d = xs.getD (n - 1) d) : CF xs k (xs.map some ++ List.replicate k none) n (n + 1) := by
  have e : compL (xs.take (n + 1)) = xs.take n := by rw [compL_eq d h1 h he, hc]
  exact ⟨by simp, by rw [e, List.length_take]; omega, by omega, by omega, by rw [e, raw_take (by omega)], rfl⟩
theorem CF.same (q : CF xs k zs i j) (d : α) (h : j < xs.length) (he : xs.getD j d = xs.getD (j - 1) d) : CF xs k zs i (j + 1) := by
  have hlt := q.lt
  have e : compL (xs.take (j + 1)) = compL (xs.take j) := compL_eq d (by omega) h he
  refine ⟨q.len, by rw [e]; exact q.cnt, by omega, by omega, by rw [e]; exact q.front, ?_⟩
  have := congrArg (List.drop 1) q.rest
  simp only [List.drop_drop] at this
  rw [show j - 1 + 1 = j by omega] at this
  rw [Nat.add_sub_cancel]; exact this
theorem CF.new (q : CF xs k zs i j) (d : α) (h : j < xs.length) (he : ¬ xs.getD j d = xs.getD (j - 1) d) : CF xs k (zs.set i (some (xs.getD j d))) (i + 1) (j + 1) := by
  have hlt := q.lt
  have e : compL (xs.take (j + 1)) = compL (xs.take j) ++ [xs.getD j d] := compL_ne d (by omega) h he
  have hl := q.len
  refine ⟨by rw [List.length_set]; exact hl, by rw [e, List.length_append, ← q.cnt]; rfl, by omega, by omega, ?_, ?_⟩
  · rw [e, List.map_append, ← q.front, take_at none (by rw [List.length_set]; omega), List.take_set_of_le (Nat.le_refl _)]
    congr 1
    rw [List.getD_eq_getElem?_getD, List.getElem?_set_self (by omega)]; rfl
  · have := congrArg (List.drop 1) q.rest
    simp only [List.drop_drop] at this
    rw [show j - 1 + 1 = j by omega] at this
    rw [Nat.add_sub_cancel, List.drop_set_of_lt (by omega)]; exact this
theorem CF.fin (q : CF xs k zs i xs.length) : zs.take i = (compL xs).map some := by
  have := q.front
  rwa [take_all (Nat.le_refl _)] at this
end
theorem sle_cases {x y : List UInt8} (h : x ≤ y) : x < y ∨ x = y := by
  by_cases hx : x < y
  · exact .inl hx
  · exact .inr (slt_total hx (List.not_lt.2 h))
theorem rise_ext : ∀ {a b : List (List UInt8)}, a.Pairwise (· < ·) → b.Pairwise (· < ·) → (∀ x, x ∈ a ↔ x ∈ b) → a = b
  | [], [], _, _, _ => rfl
  | [], y :: b, _, _, h => absurd ((h y).2 List.mem_cons_self) (by simp)
  | x :: a, [], _, _, h => absurd ((h x).1 List.mem_cons_self) (by simp)
  | x :: a, y :: b, ha, hb, h => by
    rw [List.pairwise_cons] at ha hb
    have hxy : x = y := by
      rcases List.mem_cons.1 ((h x).1 List.mem_cons_self) with h1 | h1
      · exact h1
      · rcases List.mem_cons.1 ((h y).2 List.mem_cons_self) with h2 | h2
        · exact h2.symm
        · exact absurd (hb.1 x h1) (slt_asymm (ha.1 y h2))
    subst hxy
    congr 1
    refine rise_ext ha.2 hb.2 fun z => ⟨fun hz => ?_, fun hz => ?_⟩
    · rcases List.mem_cons.1 ((h z).1 (List.mem_cons_of_mem _ hz)) with h1 | h1
      · subst h1; exact absurd (ha.1 z hz) (slt_irrefl z)
      · exact h1
    · rcases List.mem_cons.1 ((h z).2 (List.mem_cons_of_mem _ hz)) with h1 | h1
      · subst h1; exact absurd (hb.1 z hz) (slt_irrefl z)
      · exact h1
theorem sortStr_pw (l : List (List UInt8)) : (sortStr l).Pairwise (· ≤ ·) := by
  have := List.pairwise_mergeSort (le := fun x y : List UInt8 => decide (x ≤ y)) (fun a b c h1 h2 => by
    simp only [decide_eq_true_eq] at *; exact List.le_trans h1 h2) (fun a b => by
    simp only [Bool.or_eq_true, decide_eq_true_eq]; exact List.le_total a b) l
  exact this.imp fun h => by simpa using h
theorem sortStr_mem {l : List (List UInt8)} {x : List UInt8} : x ∈ sortStr l ↔ x ∈ l := (List.mergeSort_perm _ _).mem_iff
theorem sortStr_len (l : List (List UInt8)) : (sortStr l).length = l.length := (List.mergeSort_perm _ _).length_eq
theorem compL_mem' {α : Type} [DecidableEq α] : ∀ (n : Nat) (l : List α), l.length = n → ∀ x, x ∈ compL l ↔ x ∈ l
  | 0, l, h, x => by rw [List.eq_nil_of_length_eq_zero h]; exact Iff.rfl
  | n + 1, l, h, x => by
    have hne : l ≠ [] := by rintro rfl; simp at h
    rw [← List.dropLast_concat_getLast hne]
    have h3 : l.dropLast.length = l.length - 1 := List.length_dropLast
    have ih := compL_mem' n l.dropLast (by omega) x
    rw [compL_snoc, cstep]
    split
    · rename_i hs
      rw [ih, List.mem_append, List.mem_singleton]
      refine ⟨.inl, fun hx => hx.elim id fun hx => ?_⟩
      rw [compL_last] at hs
      rw [hx]; exact List.mem_of_getLast? hs
    · rw [List.mem_append, List.mem_append, ih]
theorem compL_mem {α : Type} [DecidableEq α] {l : List α} {x : α} : x ∈ compL l ↔ x ∈ l := compL_mem' _ l rfl x
theorem compL_rise' : ∀ (n : Nat) (l : List (List UInt8)), l.length = n → l.Pairwise (· ≤ ·) → (compL l).Pairwise (· < ·)
  | 0, l, h, _ => by rw [List.eq_nil_of_length_eq_zero h]; exact List.Pairwise.nil
  | n + 1, l, h, hp => by
    have hne : l ≠ [] := by rintro rfl; simp at h
    rw [← List.dropLast_concat_getLast hne] at hp ⊢
    have h3 : l.dropLast.length = l.length - 1 := List.length_dropLast
    rw [List.pairwise_append] at hp
    have ih := compL_rise' n l.dropLast (by omega) hp.1
    rw [compL_snoc, cstep]
    split
    · exact ih
    · rename_i hs
      rw [List.pairwise_append]
      refine ⟨ih, by simp, fun a ha b hb => ?_⟩
      rw [List.mem_singleton] at hb
      subst hb
      have h4 := hp.2.2 a (compL_mem.1 ha) _ (List.mem_singleton.2 rfl)
      rcases sle_cases h4 with h5 | h5
      · exact h5
      · exfalso
        -- a is the greatest: it is the last
        apply hs
        have hne2 : compL l.dropLast ≠ [] := List.ne_nil_of_mem ha
        rw [List.getLast?_eq_some_getLast hne2]
        congr 1
        have h6 : (compL l.dropLast).getLast hne2 ∈ l.dropLast := compL_mem.1 (List.getLast_mem hne2)
        have h7 := hp.2.2 _ h6 _ (List.mem_singleton.2 rfl)
        rcases sle_cases h7 with h8 | h8
        · exfalso
          rw [← List.dropLast_concat_getLast hne2] at ih ha
          rw [List.pairwise_append] at ih
          rcases List.mem_append.1 ha with h9 | h9
          · have := ih.2.2 a h9 _ (List.mem_singleton.2 rfl)
            rw [h5] at this
            exact slt_asymm this h8
          · rw [List.mem_singleton] at h9
            rw [← h9, h5] at h8; exact slt_irrefl _ h8
        · exact h8
theorem compL_rise {l : List (List UInt8)} (h : l.Pairwise (· ≤ ·)) : (compL l).Pairwise (· < ·) := compL_rise' _ l rfl h
def sortU (l : List (List UInt8)) : List (List UInt8) := compL (sortStr l)
theorem sortU_rise (l : List (List UInt8)) : (sortU l).Pairwise (· < ·) := compL_rise (sortStr_pw l)
theorem sortU_mem {l : List (List UInt8)} {x : List UInt8} : x ∈ sortU l ↔ x ∈ l := by rw [sortU, compL_mem, sortStr_mem]
theorem sortU_len (l : List (List UInt8)) : (sortU l).length ≤ l.length := by
  have := compL_len (sortStr l)
  rw [sortStr_len] at this
  exact this
def posK (k : List UInt8) : List (List UInt8) → Nat
  | [] => 0
  | x :: r => if sless x k = true then posK k r + 1 else 0
def addK (l : List (List UInt8)) (k : List UInt8) : List (List UInt8) := if posK k l < l.length ∧ l.getD (posK k l) [] = k then l else l.take (posK k l) ++ [k] ++ l.drop (posK k l)
theorem addK_cons (x : List UInt8) (r : List (List UInt8)) (k : List UInt8) : addK (x :: r) k = if sless x k = true then x :: addK r k else if x = k then x :: r else k :: x :: r := by
  unfold addK
  rw [posK]
  split
  · simp only [List.length_cons, List.getD_cons_succ, List.take_succ_cons, List.drop_succ_cons, Nat.add_lt_add_iff_right]
    split <;> simp
  · simp only [List.length_cons, Nat.zero_lt_succ, List.getD_cons_zero, true_and, List.take_zero, List.drop_zero, List.nil_append]
    rfl
theorem addK_mem (k x : List UInt8) : ∀ (l : List (List UInt8)), x ∈ addK l k ↔ x ∈ l ∨ x = k
  | [] => by simp [addK, posK]
  | y :: r => by
    have ih := addK_mem k x r
    rw [addK_cons]
    split
    · rw [List.mem_cons, ih, List.mem_cons, or_assoc]
    · split
      · rename_i h; subst h
        rw [List.mem_cons]
        exact ⟨.inl, fun h => h.elim id .inl⟩
      · rw [List.mem_cons]; exact or_comm
theorem addK_rise (k : List UInt8) : ∀ (l : List (List UInt8)), l.Pairwise (· < ·) → (addK l k).Pairwise (· < ·)
  | [], _ => by simp [addK, posK]
  | y :: r, h => by
    have h' := List.pairwise_cons.1 h
    have ih := addK_rise k r h'.2
    rw [addK_cons]
    split
    · rename_i hs
      rw [List.pairwise_cons]
      refine ⟨fun z hz => ?_, ih⟩
      rcases (addK_mem k z r).1 hz with h1 | h1
      · exact h'.1 z h1
      · rw [h1]; exact sless_iff.1 hs
    · split
      · exact h
      · rename_i hs hne
        have hky : k < y := by
          rcases sle_cases (List.not_lt.1 (fun hc => hs (sless_iff.2 hc))) with h1 | h1
          · exact h1
          · exact absurd h1.symm hne
        rw [List.pairwise_cons]
        refine ⟨fun z hz => ?_, h⟩
        rcases List.mem_cons.1 hz with h1 | h1
        · rw [h1]; exact hky
        · exact slt_trans hky (h'.1 z h1)
theorem foldK (l : List (List UInt8)) : ∀ (acc : List (List UInt8)), acc.Pairwise (· < ·) → (l.foldl addK acc).Pairwise (· < ·) ∧ ∀ x, x ∈ l.foldl addK acc ↔ x ∈ acc ∨ x ∈ l := by
  induction l with
  | nil => intro acc h; exact ⟨h, by simp⟩
  | cons k l ih =>
    intro acc h
    obtain ⟨h1, h2⟩ := ih (addK acc k) (addK_rise k acc h)
    refine ⟨h1, fun x => ?_⟩
    rw [List.foldl_cons, h2, addK_mem, List.mem_cons, or_assoc]
theorem sortU_fold (l : List (List UInt8)) : l.foldl addK [] = sortU l := by
  obtain ⟨h1, h2⟩ := foldK l [] List.Pairwise.nil
  refine rise_ext h1 (sortU_rise l) fun x => ?_
  rw [h2, sortU_mem]; simp
end Go.Proofs.Ytkmfjlfejdoehaa

namespace Go.Proofs.Ytkmfjlfejdoehaa
open Go.Proofs Go.Shelf
def Try.lays190_ren : Go.Shelf.Ren := ⟨fun | 190 => 98 | 125 => 133 | 258 => 132 | 128 => 163 | 129 => 164 | 302 => 154 | 303 => 155 | 304 => 156 | 305 => 157 | 306 => 158 | 307 => 159 | 308 => 160 | 309 => 161 | 310 => 162 | 333 => 172 | 329 => 173 | 330 => 174 | 334 => 175 | 335 => 176 | 336 => 177 | 344 => 179 | n => n, fun | 31 => 44 | 9 => 9 | 3 => 3 | 46 => 147 | 0 => 0 | 51 => 204 | 53 => 164 | 4 => 4 | 183 => 197 | 182 => 196 | 131 => 107 | 5 => 5 | 218 => 208 | 222 => 212 | 228 => 215 | 229 => 216 | n => n, fun | n => n⟩
theorem lays190 : Go.Proofs.Lays.n190 Try.prog Try.lays190_ren := {
  mixed := by kernel_rfl
  f125 := Try.func133.trans (congrArg some (by kernel_rfl))
  f128 := Try.func163.trans (congrArg some (by kernel_rfl))
  f129 := Try.func164.trans (congrArg some (by kernel_rfl))
  f190 := Try.func98.trans (congrArg some (by kernel_rfl))
  f258 := Try.func132.trans (congrArg some (by kernel_rfl))
  f302 := Try.func154.trans (congrArg some (by kernel_rfl))
  f303 := Try.func155.trans (congrArg some (by kernel_rfl))
  f304 := Try.func156.trans (congrArg some (by kernel_rfl))
  f305 := Try.func157.trans (congrArg some (by kernel_rfl))
  f306 := Try.func158.trans (congrArg some (by kernel_rfl))
  f307 := Try.func159.trans (congrArg some (by kernel_rfl))
  f308 := Try.func160.trans (congrArg some (by kernel_rfl))
  f309 := Try.func161.trans (congrArg some (by kernel_rfl))
  f310 := Try.func162.trans (congrArg some (by kernel_rfl))
  f329 := Try.func173.trans (congrArg some (by kernel_rfl))
  f330 := Try.func174.trans (congrArg some (by kernel_rfl))
  f333 := Try.func172.trans (congrArg some (by kernel_rfl))
  f334 := Try.func175.trans (congrArg some (by kernel_rfl))
  f335 := Try.func176.trans (congrArg some (by kernel_rfl))
  f336 := Try.func177.trans (congrArg some (by kernel_rfl))
  f344 := Try.func179.trans (congrArg some (by kernel_rfl))
  t0 := Try.underlying0
  a0 := Try.isAgg0
  z0 := Try.sizeOf0
  v0 := Try.zeroValue0
  t3 := Try.underlying3
  a3 := Try.isAgg3
  z3 := Try.sizeOf3
  v3 := Try.zeroValue3
  t4 := Try.underlying4
  a4 := Try.isAgg4
  z4 := Try.sizeOf4
  v4 := Try.zeroValue4
  t5 := Try.underlying5
  a5 := Try.isAgg5
  z5 := Try.sizeOf5
  v5 := Try.zeroValue5
  t9 := Try.underlying9
  a9 := Try.isAgg9
  z9 := Try.sizeOf9
  v9 := Try.zeroValue9
  t31 := Try.underlying44
  a31 := Try.isAgg44
  z31 := Try.sizeOf44
  v31 := Try.zeroValue44
  t46 := Try.underlying147
  a46 := Try.isAgg147
  z46 := Try.sizeOf147
  v46 := Try.zeroValue147
  t51 := Try.underlying204
  a51 := Try.isAgg204
  z51 := Try.sizeOf204
  v51 := Try.zeroValue204
  t53 := Try.underlying164
  a53 := Try.isAgg164
  z53 := Try.sizeOf164
  v53 := Try.zeroValue164
  t131 := Try.underlying107
  a131 := Try.isAgg107
  z131 := Try.sizeOf107
  v131 := Try.zeroValue107
  t182 := Try.underlying196
  a182 := Try.isAgg196
  z182 := Try.sizeOf196
  v182 := Try.zeroValue196
  t183 := Try.underlying197
  a183 := Try.isAgg197
  z183 := Try.sizeOf197
  v183 := Try.zeroValue197
  t218 := Try.underlying208
  a218 := Try.isAgg208
  z218 := Try.sizeOf208
  v218 := Try.zeroValue208
  t222 := Try.underlying212
  a222 := Try.isAgg212
  z222 := Try.sizeOf212
  v222 := Try.zeroValue212
  t228 := Try.underlying215
  a228 := Try.isAgg215
  z228 := Try.sizeOf215
  v228 := Try.zeroValue215
  t229 := Try.underlying216
  a229 := Try.isAgg216
  z229 := Try.sizeOf216
  v229 := Try.zeroValue216 }
end Go.Proofs.Ytkmfjlfejdoehaa
