import Derived.Test.YtoedpnniaikfbaaQ9
import Derived.Test.YtoedpnniaikfbaaQ6
import Derived.Test.YtoedpnniaikfbaaEng4
import Derived.Test.YtoedpnniaikfbaaQ8
/- Texts, one behind the other. -/
set_option linter.unusedVariables false
set_option linter.unusedSimpArgs false
set_option maxRecDepth 8000
set_option maxHeartbeats 4000000
namespace Go.Proofs.Ytoedpnniaikfbaa
open Go.Eng
theorem pOverlapsS : XOk Try.prog 142 xOverlaps := xOverlaps_ok tabOk Try.func142 (by kernel_rfl) (by kernel_rfl) (by kernel_rfl) (by kernel_rfl) (t := 42) rfl rfl (by rfl)
theorem pOverlapsI : XOk Try.prog 144 xOverlaps := xOverlaps_ok tabOk Try.func144 (by kernel_rfl) (by kernel_rfl) (by kernel_rfl) (by kernel_rfl) (t := 58) rfl rfl (by rfl)
theorem pOverlapsB : XOk Try.prog 146 xOverlaps := xOverlaps_ok tabOk Try.func146 (by kernel_rfl) (by kernel_rfl) (by kernel_rfl) (by kernel_rfl) (t := 59) rfl rfl (by rfl)
def sInsertS : OSpec := ⟨9, .str, [.d (.int .i64), .o 9 .str], fun xs y => 0 ≤ y.1 ∧ y.1 ≤ (xs.length : Int) ∧ xs.length + List.length y.2.1 ≤ 1000000, fun xs y => xs.take y.1.toNat ++ (y.2.1 ++ xs.drop y.1.toNat)⟩
theorem fInsertS : FnOk Try.prog 105 := ⟨_, Try.func105, by decide, rfl⟩
theorem pInsertS : SpecOk Try.prog 105 sInsertS.spec := by
  refine oOk (T := tab) (S := (spOf [(142, xOverlaps)])) (keep := k105) (by kernel_rfl) tabOk (spCons (.inr pOverlapsS) spNil) (by kernel_rfl) Try.func105 (by kernel_rfl) (by decide) (by decide) fun xs ys k hg hgt hmax hp => ?_
  obtain ⟨i, vs, ⟨⟩⟩ := ys
  change List (List UInt8) at xs
  change List (List UInt8) at vs
  change Int at i
  change 0 ≤ i ∧ i ≤ (xs.length : Int) ∧ xs.length + vs.length ≤ 1000000 at hp
  clear hg hgt
  obtain ⟨i, rfl⟩ := Int.eq_ofNat_of_zero_le hp.1
  show vfun tab _ k105 Try.f105 [.vw 0 .str 0 xs.length true, .i .i64 i, .own 1] [(0, .raw 9 .str (xs.map some ++ List.replicate k (none : Option (Ty.den .str)))), (1, .arr 9 .str vs)] _
  refine Ev.out ?_
  repeat' (first | ((with_reducible refine Ev.mk ?_); conv => whnf) | (with_reducible refine And.intro ?_ ?_) | (intro h))
  all_goals (try simp only [decide_eq_true_eq, decide_eq_false_iff_not, beq_iff_eq, bne_iff_ne, beq_eq_false_iff_ne, bne_eq_false_iff_eq, Int.toNat_natCast, ge_iff_le, gt_iff_lt, Bool.not_eq_true', Bool.not_eq_false', Int.not_lt, Int.not_le, ne_eq] at *)
  all_goals (try dsimp only [Ty.den, Ty.dflt, .str] at *)
  all_goals (try simp only [eq4, ne4, eq3, ne3, eq2, ne2, Prod.eta, List.length_cons, List.length_nil, List.length_append, Nat.zero_add] at *)
  all_goals (try simp (disch := omega) only [wrap64] at *)
  all_goals (try simp only [Int.sub_zero, Int.toNat_natCast, Int.toNat_sub, Int.toNat_zero, Nat.zero_add, toNat_add', toNat_addsub, toNat_subadd, List.length_map, List.length_append, List.length_replicate, List.length_take, List.length_drop] at *)
  all_goals first | omega | skip
  all_goals try first | exact leafDraw (by kernel_rfl) | exact Leaf.mk trivial | (refine Leaf.mk ?_; omega) | (refine Leaf.mk ?_; unfold maxLen; omega)
  all_goals first
    | (refine Leaf.mk ?_; unfold maxLen at *; omega)
    | skip
  · refine Leaf.mk (readO_vw.trans (congrArg some (?_ : _ = (xs.take i ++ (vs ++ xs.drop i)).map some)))
    obtain rfl : vs = [] := List.eq_nil_of_length_eq_zero (by omega)
    change ((xs.map some ++ List.replicate k none).take _) = _
    rw [raw_take (by omega)]
    simp
  · refine Leaf.mk (readO_vw.trans (congrArg some (?_ : _ = (xs.take i ++ (vs ++ xs.drop i)).map some)))
    obtain rfl : i = xs.length := by omega
    change (List.take (α := Option (List UInt8)) _ _) = _
    rw [raw_take (by omega), tk3 (by simp)]
    simp
  · refine Leaf.mk (readO_vw.trans (congrArg some (?_ : _ = (xs.take i ++ (vs ++ xs.drop i)).map some)))
    obtain rfl : i = xs.length := by omega
    change (List.take (α := Option (List UInt8)) _ _) = _
    rw [raw_take (by omega), tk3 (by simp)]
    simp
  · refine Leaf.mk (?_ : (List.take _ (List.drop _ (xs.map some ++ List.replicate k none))).all Option.isSome = true); rw [raw_cut (by omega)]; exact raw_all
  · exact Leaf.mk (readO_vw.trans (congrArg some (ins_new (by omega) (by omega) (by omega))))
  · refine Leaf.mk (?_ : (List.take _ (List.drop _ (xs.map some ++ List.replicate k none))).all Option.isSome = true); rw [raw_cut (by omega)]; exact raw_all
  · exact Leaf.mk (readO_vw.trans (congrArg some (ins_in (by omega) (by omega))))
def sInsertI : OSpec := ⟨3, (.int .i64), [.d (.int .i64), .o 3 (.int .i64)], fun xs y => 0 ≤ y.1 ∧ y.1 ≤ (xs.length : Int) ∧ xs.length + List.length y.2.1 ≤ 1000000, fun xs y => xs.take y.1.toNat ++ (y.2.1 ++ xs.drop y.1.toNat)⟩
theorem fInsertI : FnOk Try.prog 106 := ⟨_, Try.func106, by decide, rfl⟩
theorem pInsertI : SpecOk Try.prog 106 sInsertI.spec := by
  refine oOk (T := tab) (S := (spOf [(144, xOverlaps)])) (keep := k106) (by kernel_rfl) tabOk (spCons (.inr pOverlapsI) spNil) (by kernel_rfl) Try.func106 (by kernel_rfl) (by decide) (by decide) fun xs ys k hg hgt hmax hp => ?_
  obtain ⟨i, vs, ⟨⟩⟩ := ys
  change List Int at xs
  change List Int at vs
  change Int at i
  change 0 ≤ i ∧ i ≤ (xs.length : Int) ∧ xs.length + vs.length ≤ 1000000 at hp
  clear hg hgt
  obtain ⟨i, rfl⟩ := Int.eq_ofNat_of_zero_le hp.1
  show vfun tab _ k106 Try.f106 [.vw 0 (.int .i64) 0 xs.length true, .i .i64 i, .own 1] [(0, .raw 3 (.int .i64) (xs.map some ++ List.replicate k (none : Option (Ty.den (.int .i64))))), (1, .arr 3 (.int .i64) vs)] _
  refine Ev.out ?_
  repeat' (first | ((with_reducible refine Ev.mk ?_); conv => whnf) | (with_reducible refine And.intro ?_ ?_) | (intro h))
  all_goals (try simp only [decide_eq_true_eq, decide_eq_false_iff_not, beq_iff_eq, bne_iff_ne, beq_eq_false_iff_ne, bne_eq_false_iff_eq, Int.toNat_natCast, ge_iff_le, gt_iff_lt, Bool.not_eq_true', Bool.not_eq_false', Int.not_lt, Int.not_le, ne_eq] at *)
  all_goals (try dsimp only [Ty.den, Ty.dflt, (.int .i64)] at *)
  all_goals (try simp only [eq4, ne4, eq3, ne3, eq2, ne2, Prod.eta, List.length_cons, List.length_nil, List.length_append, Nat.zero_add] at *)
  all_goals (try simp (disch := omega) only [wrap64] at *)
  all_goals (try simp only [Int.sub_zero, Int.toNat_natCast, Int.toNat_sub, Int.toNat_zero, Nat.zero_add, toNat_add', toNat_addsub, toNat_subadd, List.length_map, List.length_append, List.length_replicate, List.length_take, List.length_drop] at *)
  all_goals first | omega | skip
  all_goals try first | exact leafDraw (by kernel_rfl) | exact Leaf.mk trivial | (refine Leaf.mk ?_; omega) | (refine Leaf.mk ?_; unfold maxLen; omega)
  all_goals first
    | (refine Leaf.mk ?_; unfold maxLen at *; omega)
    | skip
  · refine Leaf.mk (readO_vw.trans (congrArg some (?_ : _ = (xs.take i ++ (vs ++ xs.drop i)).map some)))
    obtain rfl : vs = [] := List.eq_nil_of_length_eq_zero (by omega)
    change ((xs.map some ++ List.replicate k none).take _) = _
    rw [raw_take (by omega)]
    simp
  · refine Leaf.mk (readO_vw.trans (congrArg some (?_ : _ = (xs.take i ++ (vs ++ xs.drop i)).map some)))
    obtain rfl : i = xs.length := by omega
    change (List.take (α := Option Int) _ _) = _
    rw [raw_take (by omega), tk3 (by simp)]
    simp
  · refine Leaf.mk (readO_vw.trans (congrArg some (?_ : _ = (xs.take i ++ (vs ++ xs.drop i)).map some)))
    obtain rfl : i = xs.length := by omega
    change (List.take (α := Option Int) _ _) = _
    rw [raw_take (by omega), tk3 (by simp)]
    simp
  · refine Leaf.mk (?_ : (List.take _ (List.drop _ (xs.map some ++ List.replicate k none))).all Option.isSome = true); rw [raw_cut (by omega)]; exact raw_all
  · exact Leaf.mk (readO_vw.trans (congrArg some (ins_new (by omega) (by omega) (by omega))))
  · refine Leaf.mk (?_ : (List.take _ (List.drop _ (xs.map some ++ List.replicate k none))).all Option.isSome = true); rw [raw_cut (by omega)]; exact raw_all
  · exact Leaf.mk (readO_vw.trans (congrArg some (ins_in (by omega) (by omega))))
def sInsertB : OSpec := ⟨25, (.slice MsgT), [.d (.int .i64), .o 25 (.slice MsgT)], fun xs y => 0 ≤ y.1 ∧ y.1 ≤ (xs.length : Int) ∧ xs.length + List.length y.2.1 ≤ 1000000, fun xs y => xs.take y.1.toNat ++ (y.2.1 ++ xs.drop y.1.toNat)⟩
theorem fInsertB : FnOk Try.prog 107 := ⟨_, Try.func107, by decide, rfl⟩
theorem pInsertB : SpecOk Try.prog 107 sInsertB.spec := by
  refine oOk (T := tab) (S := (spOf [(146, xOverlaps)])) (keep := k107) (by kernel_rfl) tabOk (spCons (.inr pOverlapsB) spNil) (by kernel_rfl) Try.func107 (by kernel_rfl) (by decide) (by decide) fun xs ys k hg hgt hmax hp => ?_
  obtain ⟨i, vs, ⟨⟩⟩ := ys
  change List (List Msg) at xs
  change List (List Msg) at vs
  change Int at i
  change 0 ≤ i ∧ i ≤ (xs.length : Int) ∧ xs.length + vs.length ≤ 1000000 at hp
  clear hg hgt
  obtain ⟨i, rfl⟩ := Int.eq_ofNat_of_zero_le hp.1
  show vfun tab _ k107 Try.f107 [.vw 0 (.slice MsgT) 0 xs.length true, .i .i64 i, .own 1] [(0, .raw 25 (.slice MsgT) (xs.map some ++ List.replicate k (none : Option (Ty.den (.slice MsgT))))), (1, .arr 25 (.slice MsgT) vs)] _
  refine Ev.out ?_
  repeat' (first | ((with_reducible refine Ev.mk ?_); conv => whnf) | (with_reducible refine And.intro ?_ ?_) | (intro h))
  all_goals (try simp only [decide_eq_true_eq, decide_eq_false_iff_not, beq_iff_eq, bne_iff_ne, beq_eq_false_iff_ne, bne_eq_false_iff_eq, Int.toNat_natCast, ge_iff_le, gt_iff_lt, Bool.not_eq_true', Bool.not_eq_false', Int.not_lt, Int.not_le, ne_eq] at *)
  all_goals (try dsimp only [Ty.den, Ty.dflt, (.slice MsgT)] at *)
  all_goals (try simp only [eq4, ne4, eq3, ne3, eq2, ne2, Prod.eta, List.length_cons, List.length_nil, List.length_append, Nat.zero_add] at *)
  all_goals (try simp (disch := omega) only [wrap64] at *)
  all_goals (try simp only [Int.sub_zero, Int.toNat_natCast, Int.toNat_sub, Int.toNat_zero, Nat.zero_add, toNat_add', toNat_addsub, toNat_subadd, List.length_map, List.length_append, List.length_replicate, List.length_take, List.length_drop] at *)
  all_goals first | omega | skip
  all_goals try first | exact leafDraw (by kernel_rfl) | exact Leaf.mk trivial | (refine Leaf.mk ?_; omega) | (refine Leaf.mk ?_; unfold maxLen; omega)
  all_goals first
    | (refine Leaf.mk ?_; unfold maxLen at *; omega)
    | skip
  · refine Leaf.mk (readO_vw.trans (congrArg some (?_ : _ = (xs.take i ++ (vs ++ xs.drop i)).map some)))
    obtain rfl : vs = [] := List.eq_nil_of_length_eq_zero (by omega)
    change ((xs.map some ++ List.replicate k none).take _) = _
    rw [raw_take (by omega)]
    simp
  · refine Leaf.mk (readO_vw.trans (congrArg some (?_ : _ = (xs.take i ++ (vs ++ xs.drop i)).map some)))
    obtain rfl : i = xs.length := by omega
    change (List.take (α := Option (List Msg)) _ _) = _
    rw [raw_take (by omega), tk3 (by simp)]
    simp
  · refine Leaf.mk (readO_vw.trans (congrArg some (?_ : _ = (xs.take i ++ (vs ++ xs.drop i)).map some)))
    obtain rfl : i = xs.length := by omega
    change (List.take (α := Option (List Msg)) _ _) = _
    rw [raw_take (by omega), tk3 (by simp)]
    simp
  · refine Leaf.mk (?_ : (List.take _ (List.drop _ (xs.map some ++ List.replicate k none))).all Option.isSome = true); rw [raw_cut (by omega)]; exact raw_all
  · exact Leaf.mk (readO_vw.trans (congrArg some (ins_new (by omega) (by omega) (by omega))))
  · refine Leaf.mk (?_ : (List.take _ (List.drop _ (xs.map some ++ List.replicate k none))).all Option.isSome = true); rw [raw_cut (by omega)]; exact raw_all
  · exact Leaf.mk (readO_vw.trans (congrArg some (ins_in (by omega) (by omega))))
def sIGrow : PSpec := ⟨[.d InT, .d (.int .i64), .d (.int .i64), .d .str], [⟨true, [.d InT]⟩], fun x => IPre x.1, fun x => ((growI x.1 x.2.1 x.2.2.1 x.2.2.2.1, ()), ())⟩
theorem fIGrow : FnOk Try.prog 49 := ⟨_, Try.func49, by decide, rfl⟩
theorem pIGrow : PSound Try.prog 49 sIGrow := by
  refine psound (T := tab) (S := (spOf [(97, sIOwn.spec (lsOf [])), (98, sHas.spec (lsOf [])), (105, sInsertS.spec), (106, sInsertI.spec), (107, sInsertB.spec)])) (keep := k49) (by kernel_rfl) tabOk (spCons (pOk pIOwn fIOwn (by decide) lsNil) (spCons (pOk pHas fHas (by decide) lsNil) (spCons (.inl ⟨pInsertS, fInsertS⟩) (spCons (.inl ⟨pInsertI, fInsertI⟩) (spCons (.inl ⟨pInsertB, fInsertB⟩) spNil))))) (by kernel_rfl) Try.func49 (by kernel_rfl) (by decide) fun xs hg hp => ?_
  obtain ⟨n, i, right, sep, ⟨⟩⟩ := xs
  obtain ⟨ps, ks, bs⟩ := n
  clear hg
  change List (List UInt8) at ps
  change List Int at ks
  change List (List Msg) at bs
  change Int at i right
  change List UInt8 at sep
  change IPre (ps, ks, bs) at hp
  have hpp := hp.p
  have hpk := hp.k
  have hpb := hp.b
  dsimp only at hpp hpk hpb
  show vfun tab _ k49 Try.f49 [.agg [.sl .str ps, .sl (.int .i64) ks, .sl (.slice MsgT) bs], .i .i64 i, .i .i64 right, .s sep] [] _
  refine Ev.out ?_
  repeat' (first | ((with_reducible refine Ev.mk ?_); conv => whnf) | (with_reducible refine And.intro ?_ ?_) | (intro h))
  all_goals (try simp only [decide_eq_true_eq, decide_eq_false_iff_not, beq_iff_eq, bne_iff_ne, beq_eq_false_iff_ne, bne_eq_false_iff_eq, Int.toNat_natCast, ge_iff_le, gt_iff_lt, Bool.not_eq_true', Bool.not_eq_false', Int.not_lt, Int.not_le, ne_eq] at *)
  all_goals (try dsimp only [Ty.den, Ty.dflt, InT, sIOwn, sHas] at *)
  all_goals (try simp only [eq4, ne4, eq3, ne3, eq2, ne2, Prod.eta, List.length_cons, List.length_nil, List.length_append, Nat.zero_add] at *)
  all_goals (try simp (disch := omega) only [wrap64] at *)
  all_goals try first | exact leafDraw (by kernel_rfl) | exact Leaf.mk trivial | (refine Leaf.mk ?_; omega) | (refine Leaf.mk ?_; unfold maxLen; omega)
  · refine Leaf.mk (retIn (u := (ps, ks, bs)) (v := growI (ps, ks, bs) i right sep) ?_)
    rw [growI, if_neg (not_of_false (show hasI (ps, ks, bs) i = false by assumption))]
  all_goals
    obtain ⟨hw, hi0, hi1⟩ := hasI_iff.1 (show hasI (ps, ks, bs) i = true from ‹_›)
    obtain ⟨w1, w2⟩ := wholeI_iff.1 hw
    dsimp only at hi1 w1 w2
    have ew : IntKind.i64.wrap (i + 1) = i + 1 := wrap64 (by omega)
  · exact Leaf.mk (show 0 ≤ i ∧ i ≤ (ps.length : Int) ∧ ps.length + 1 ≤ 1000000 by omega)
  · rw [ew]; exact Leaf.mk (show 0 ≤ i + 1 ∧ i + 1 ≤ (ks.length : Int) ∧ ks.length + 1 ≤ 1000000 by omega)
  · rw [ew]; exact Leaf.mk (show 0 ≤ i + 1 ∧ i + 1 ≤ (bs.length : Int) ∧ bs.length + 1 ≤ 1000000 by omega)
  · rw [ew]
    refine Leaf.mk (retIn (u := (insK i.toNat sep ps, insK (i + 1).toNat right ks, insK (i + 1).toNat [] bs)) (v := growI (ps, ks, bs) i right sep) ?_)
    rw [growI, if_pos (show hasI (ps, ks, bs) i = true by assumption), show (i + 1).toNat = i.toNat + 1 by omega]
end Go.Proofs.Ytoedpnniaikfbaa

set_option linter.unusedVariables false
set_option linter.unusedSimpArgs false
set_option maxRecDepth 8000
set_option maxHeartbeats 4000000
namespace Go.Proofs.Ytoedpnniaikfbaa
open Go.Eng
def sHasPrefix : PSpec := ⟨[.d BT, .d BT], [⟨false, [.d .bool]⟩], fun _ => True, fun x => ((hasPre x.1 x.2.1, ()), ())⟩
theorem fHasPrefix : FnOk Try.prog 87 := ⟨_, Try.func87, by decide, rfl⟩
theorem pHasPrefix : PSound Try.prog 87 sHasPrefix := by
  refine psound (T := tab) (S := (spOf [(132, sBEqual.spec (lsOf []))])) (keep := k87) (by kernel_rfl) tabOk (spCons (pOk pBEqual fBEqual (by decide) lsNil) spNil) (by kernel_rfl) Try.func87 (by kernel_rfl) (by decide) fun xs hg hp => ?_
  obtain ⟨b, c, ⟨⟩⟩ := xs
  change List Int at b c
  show vfun tab _ k87 Try.f87 [.sl (.int .u8) b, .sl (.int .u8) c] [] _
  refine Ev.out ?_
  repeat' (first | ((with_reducible refine Ev.mk ?_); conv => whnf) | (with_reducible refine And.intro ?_ ?_) | (intro h))
  all_goals (try simp only [decide_eq_true_eq, decide_eq_false_iff_not, beq_iff_eq, bne_iff_ne, beq_eq_false_iff_ne, bne_eq_false_iff_eq, Int.toNat_natCast, ge_iff_le, gt_iff_lt, Bool.not_eq_true', Bool.not_eq_false', Int.not_lt, Int.not_le, ne_eq] at *)
  all_goals (try dsimp only [Ty.den, Ty.dflt, MsgT, sBEqual] at *)
  all_goals (try simp only [eq4, ne4, eq3, ne3, eq2, ne2, Prod.eta, List.length_cons, List.length_nil, List.length_append, Nat.zero_add] at *)
  all_goals (try simp (disch := omega) only [wrap64] at *)
  all_goals try first | exact leafDraw (by kernel_rfl) | exact Leaf.mk trivial | (refine Leaf.mk ?_; omega) | (refine Leaf.mk ?_; unfold maxLen; omega)
  · refine Leaf.mk (ret1 (show _ = hasPre b c from ?_))
    rw [hasPre, decide_eq_true (by omega), Bool.true_and, Int.toNat_zero, List.drop_zero]
  · refine Leaf.mk (ret1 (show _ = hasPre b c from ?_))
    rw [hasPre, decide_eq_false (by omega), Bool.false_and]
def sMGet : PSpec := ⟨[.d BT], [⟨true, [.d MsgT]⟩, ⟨false, [.d (.int .i64)]⟩, ⟨false, [.d (.int .i64)]⟩], fun x => List.length (α := Int) x.1 ≤ 100000, fun x => (((getM x.1).1, ()), ((getM x.1).2.1, ()), ((getM x.1).2.2, ()), ())⟩
theorem retM {u v : Msg × Int × Int} (h : u = v) : (some ((u.1, ()), (u.2.1, ()), (u.2.2, ()), ()) : Option ((Msg × Unit) × (Int × Unit) × (Int × Unit) × Unit)) = some ((v.1, ()), (v.2.1, ()), (v.2.2, ()), ()) := by rw [h]
theorem suf_cutk (k : Int) {X r : List Int} (h : X <:+ r) : (k :: r).drop (((r.length + 1 : Nat) : Int) - ((X.length : Nat) : Int)).toNat = X := by
  obtain ⟨t, rfl⟩ := h
  rw [show (((t ++ X).length + 1 : Nat) : Int) - ((X.length : Nat) : Int) = ((t.length + 1 : Nat) : Int) by rw [List.length_append]; omega, Int.toNat_natCast, List.drop_succ_cons, List.drop_left]
theorem cut_all {α : Type} (l : List α) : l.take l.length = l := List.take_length
end Go.Proofs.Ytoedpnniaikfbaa

set_option linter.unusedVariables false
set_option linter.unusedSimpArgs false
set_option maxRecDepth 8000
set_option maxHeartbeats 4000000
namespace Go.Proofs.Ytoedpnniaikfbaa
open Go.Eng
theorem fMGet : FnOk Try.prog 33 := ⟨_, Try.func33, by decide, rfl⟩
theorem pMGet : PSound Try.prog 33 sMGet := by
  refine psound (T := tab) (S := (spOf [(68, sOf.spec (lsOf [])), (83, sNew.spec (lsOf [])), (84, sText.spec), (85, sSmall.spec), (86, sLeft.spec), (31, sMPut.spec (lsOf [])), (87, sHasPrefix.spec (lsOf []))])) (keep := k33) (by kernel_rfl) tabOk (spCons (pOk pOf fOf (by decide) lsNil) (spCons (.inl ⟨nOk lsNil pNew, fNew⟩) (spCons (.inl ⟨pText, fText⟩) (spCons (.inl ⟨pSmall, fSmall⟩) (spCons (.inl ⟨pLeft, fLeft⟩) (spCons (pOk pMPut fMPut (by decide) lsNil) (spCons (pOk pHasPrefix fHasPrefix (by decide) lsNil) spNil))))))) (by kernel_rfl) Try.func33 (by kernel_rfl) (by decide) fun xs hg hp => ?_
  obtain ⟨b, ⟨⟩⟩ := xs
  obtain ⟨⟨-, hx⟩, -⟩ := hg
  change List Int at b
  change b.length ≤ 100000 at hp
  have hB : isB b := isB_good hx
  clear hx
  cases b with
  | nil =>
  show vfun tab _ k33 Try.f33 [.sl (.int .u8) []] [] _
  refine Ev.out ?_
  repeat' (first | ((with_reducible refine Ev.mk ?_); conv => whnf) | (with_reducible refine And.intro ?_ ?_) | (intro h))
  all_goals try first | exact leafDraw (by kernel_rfl) | exact Leaf.mk trivial | (refine Leaf.mk ?_; omega) | (refine Leaf.mk ?_; unfold maxLen; omega)
  all_goals first
    | exact Leaf.mk (retM (u := (msg0, 0, 4)) (v := getM []) rfl)
    | exact absurd ‹((([] : List Int).length : Int) == 0) = false› (by decide)
  | cons k r =>
  show vfun tab _ k33 Try.f33 [.sl (.int .u8) (k :: r)] [] _
  refine Ev.out ?_
  repeat' (first | ((with_reducible refine Ev.mk ?_); conv => whnf) | (with_reducible refine And.intro ?_ ?_) | (intro h; (try dsimp only [sOf, ofK] at h); (try simp only [beq_iff_eq, bne_iff_ne, beq_eq_false_iff_ne, bne_eq_false_iff_eq, decide_eq_true_eq, decide_eq_false_iff_not, ne_eq, Int.not_lt, Int.not_le, Bool.not_eq_true', Bool.not_eq_false'] at h); try (exfalso; omega)))
  all_goals try exact leafDraw (by kernel_rfl)
  all_goals try simp only [List.getD_cons_zero, Int.toNat_zero, show Int.toNat 1 = 1 from rfl, Int.toNat_natCast, cut_all, List.drop_succ_cons, List.drop_zero] at *
  all_goals try exact Leaf.mk trivial
  all_goals (try simp only [decide_eq_true_eq, decide_eq_false_iff_not, beq_iff_eq, bne_iff_ne, beq_eq_false_iff_ne, bne_eq_false_iff_eq, Int.toNat_natCast, ge_iff_le, gt_iff_lt, Bool.not_eq_true', Bool.not_eq_false', Int.not_lt, Int.not_le, ne_eq] at *)
  all_goals (try dsimp only [Ty.den, Ty.dflt, MsgT, sNew, sText, sSmall, sLeft, sMPut, sHasPrefix] at *)
  all_goals (try simp only [eq4, ne4, eq3, ne3, eq2, ne2, Prod.eta, List.length_cons, List.length_nil, List.length_append, Nat.zero_add] at *)
  all_goals (try simp (disch := omega) only [wrap64] at *)
  all_goals try first | exact leafDraw (by kernel_rfl) | exact Leaf.mk trivial | (refine Leaf.mk ?_; omega) | (refine Leaf.mk ?_; unfold maxLen; omega)
  all_goals
    have hk0 : 0 ≤ k := (hB k List.mem_cons_self).1
    have hrl : r.length + 1 ≤ 100000 := hp
    have hs1 := suf_len (rdText_suf r 0 16)
    have hs2 := suf_len (rdSmall_suf (rdText r 0 16).2.1 (rdText r 0 16).2.2)
  all_goals
    have hs3 := suf_len (rdSmall_suf r 0)
    have hs4 := suf_len (rdSmall_suf (rdSmall r 0).2.1 (rdSmall r 0).2.2)
    have hcut := suf_cutk k ((rdSmall_suf (rdText r 0 16).2.1 (rdText r 0 16).2.2).trans (rdText_suf r 0 16))
  all_goals try rw [wrap64 (by omega)] at *
  all_goals try simp only [hcut] at *
  all_goals try (refine Leaf.mk ?_; first | omega | (rw [List.length_drop]; omega))
  all_goals first
    | refine Leaf.mk (retM (u := (msg0, 0, 4)) (v := getM (k :: r)) ((fin_of hB ?_ ?_).bad ‹¬ (putR12 _).2 = 0›))
    | refine Leaf.mk (retM (u := (msg0, 0, 4)) (v := getM (k :: r)) ((fin_of hB ?_ ?_).nol ‹(putR12 _).2 = 0› ‹_ < _›))
    | refine Leaf.mk (retM (u := (msg0, 0, 4)) (v := getM (k :: r)) ((fin_of hB ?_ ?_).nos ‹(putR12 _).2 = 0› ‹¬ strOfBytes _ = _›))
    | refine Leaf.mk (retM (u := (msg0, 0, 4)) (v := getM (k :: r)) ((fin_of hB ?_ ?_).nop ‹(putR12 _).2 = 0› ‹hasPre _ _ = false›))
    | refine Leaf.mk (retM (u := (_, _, 0)) (v := getM (k :: r)) ((fin_of hB ?_ ?_).yess ‹(putR12 _).2 = 0› ‹strOfBytes _ = _›))
    | refine Leaf.mk (retM (u := (_, _, 0)) (v := getM (k :: r)) ((fin_of hB ?_ ?_).yesp ‹(putR12 _).2 = 0› ‹hasPre _ _ = true›))
  all_goals try exact rfl
  all_goals
    intro x s hx ok q
    have hts := q.ts
    have hk3 := ok.kind
    rw [hx] at hts hk3
  all_goals first
    | (exfalso; omega)
    | (have hkk : k = 0 := by omega
       subst hkk)
    | (have hkk : k = 1 := by omega
       subst hkk)
    | (have hkk : k = 2 := by omega
       subst hkk)
    | (have hkk : k = 3 := by omega
       subst hkk)
  all_goals
    simp only [rdTs, rdTxn, rdKey, readM, if_true, if_false, Int.reduceEq, true_or, or_true, false_or, or_false, true_and, false_and] at hts ⊢
  all_goals try exact rfl
  all_goals try (rw [if_pos (by omega)]; done)
  all_goals try (rw [if_neg (by omega)]; done)
  all_goals try (rw [if_pos (by omega)]; simp_all; done)
  all_goals try (exfalso; exact absurd (congrArg (fun p : Int × List Int × Int => p.2.2) hts) ‹¬ (rdSmall _ _).2.2 = 0›)
end Go.Proofs.Ytoedpnniaikfbaa

set_option linter.unusedVariables false
set_option linter.unusedSimpArgs false
set_option maxRecDepth 8000
set_option maxHeartbeats 4000000
namespace Go.Proofs.Ytoedpnniaikfbaa
open Go.Eng
def sIGet : PSpec := ⟨[.d BT], [⟨true, [.d InT]⟩, ⟨false, [.d (.int .i64)]⟩], fun x => List.length (α := Int) x.1 ≤ 5000, fun x => (((getI x.1).1, ()), ((getI x.1).2, ()), ())⟩
theorem retGi {u v : Inn × Int} (h : u = v) : (some ((u.1, ()), (u.2, ()), ()) : Option ((Inn × Unit) × (Int × Unit) × Unit)) = some ((v.1, ()), (v.2, ()), ()) := by rw [h]
theorem ValI.hd {n : Inn} {b : List Int} (h : ValI n) (hb : layI n = b) : rdSmall b 0 = (((n.2.1.length : Nat) : Int), n.1.flatMap putText ++ kfrom n.2.1 n.2.2, 0) := by
  subst hb
  have := h.k6
  rw [layI_eq h.w1, rdSmall_put (Int.natCast_nonneg _) (by omega)]
theorem kfrom_at {ks : List Int} {bs : List (List Msg)} {i : Nat} (h : bs.length = ks.length) (hi : i < ks.length) : kfrom (ks.drop i) (bs.drop i) = kb (ks.getD i 0) (bs.getD i []) ++ kfrom (ks.drop (i + 1)) (bs.drop (i + 1)) := by
  rw [drop_at 0 hi, drop_at [] (show i < bs.length by omega), kfrom]
theorem ValI.kid {n : Inn} {i : Nat} (h : ValI n) (hi : i < n.2.1.length) : rdSmall (kfrom (n.2.1.drop i) (n.2.2.drop i)) 0 = (n.2.1.getD i 0, putSmall ((n.2.2.getD i []).length : Nat) ++ ((n.2.2.getD i []).flatMap pm ++ kfrom (n.2.1.drop (i + 1)) (n.2.2.drop (i + 1))), 0) ∧
    rdSmall (putSmall ((n.2.2.getD i []).length : Nat) ++ ((n.2.2.getD i []).flatMap pm ++ kfrom (n.2.1.drop (i + 1)) (n.2.2.drop (i + 1)))) 0 = ((((n.2.2.getD i []).length : Nat) : Int), (n.2.2.getD i []).flatMap pm ++ kfrom (n.2.1.drop (i + 1)) (n.2.2.drop (i + 1)), 0) := by
  have h1 := h.ks _ (getD_mem (xs := n.2.1) 0 hi)
  have h2 := h.bl (getD_mem (xs := n.2.2) [] (show i < n.2.2.length by have := h.w1; omega))
  rw [kfrom_at h.w1 hi, kb, max0_ok h1.1, List.append_assoc, List.append_assoc]
  exact ⟨rdSmall_put h1.1 h1.2 _, rdSmall_put (Int.natCast_nonneg _) (by omega) _⟩
theorem ValI.msg {n : Inn} {i j : Nat} (h : ValI n) (h0 : nnI n) (hi : i < n.2.2.length) (hj : j < (n.2.2.getD i []).length) (r : List Int) : getM (((n.2.2.getD i []).drop j).flatMap pm ++ r) = ((n.2.2.getD i []).getD j msg0, (((putM ((n.2.2.getD i []).getD j msg0)).length : Nat) : Int), 0) ∧
    (((n.2.2.getD i []).drop j).flatMap pm ++ r).drop (putM ((n.2.2.getD i []).getD j msg0)).length = ((n.2.2.getD i []).drop (j + 1)).flatMap pm ++ r := by
  have hb := getD_mem (xs := n.2.2) [] hi
  have hm := getD_mem (xs := n.2.2.getD i []) msg0 hj
  have h1 := h.ms _ hb _ hm
  rw [drop_at msg0 hj, List.flatMap_cons, List.append_assoc, pm_ok h1]
  exact ⟨getM_put (h0 _ hb _ hm) h1 (List.prefix_append _ _), List.drop_left' rfl⟩
theorem ValI.piv {n : Inn} {i : Nat} (h : ValI n) (hi : i < n.1.length) (r : List Int) : rdText ((n.1.drop i).flatMap putText ++ r) 0 16 = (n.1.getD i [], (n.1.drop (i + 1)).flatMap putText ++ r, 0) := by
  have h9 := h.ps _ (getD_mem (xs := n.1) [] hi)
  rw [drop_at [] hi, List.flatMap_cons, List.append_assoc, rdText_put (by omega)]
def min6 (x : Int) : Int := if 6 < x then 6 else x
theorem min6_of (x : Int) {inst : Decidable (6 < x)} : @ite Int (6 < x) inst 6 x = min6 x := by unfold min6; split <;> first | rfl | (split <;> first | rfl | omega)
theorem fIGet : FnOk Try.prog 94 := ⟨_, Try.func94, by decide, rfl⟩
theorem pIGet : PSound Try.prog 94 sIGet := by
  refine psound (T := tab) (S := (spOf [(83, sNew.spec (lsOf [])), (85, sSmall.spec), (84, sText.spec), (86, sLeft.spec), (33, sMGet.spec (lsOf [])), (93, sIPut.spec (lsOf [])), (132, sBEqual.spec (lsOf []))])) (keep := k94) (by kernel_rfl) tabOk (spCons (.inl ⟨nOk lsNil pNew, fNew⟩) (spCons (.inl ⟨pSmall, fSmall⟩) (spCons (.inl ⟨pText, fText⟩) (spCons (.inl ⟨pLeft, fLeft⟩) (spCons (pOk pMGet fMGet (by decide) lsNil) (spCons (pOk pIPut fIPut (by decide) lsNil) (spCons (pOk pBEqual fBEqual (by decide) lsNil) spNil))))))) (by kernel_rfl) Try.func94 (by kernel_rfl) (by decide) fun xs hg hp => ?_
  obtain ⟨b, ⟨⟩⟩ := xs
  obtain ⟨⟨-, hx⟩, -⟩ := hg
  change List Int at b
  change b.length ≤ 5000 at hp
  have hB : isB b := isB_good hx
  change ∀ x ∈ b, Eng.Good (.int .u8) x at hx
  have hb1 := rdSmall_suf b 0
  have hl1 := suf_len hb1
  show vfun tab _ k94 Try.f94 [.sl (.int .u8) b] [] _
  refine Ev.out ?_
  repeat' (first | ((with_reducible refine Ev.mk ?_); conv => whnf) | (with_reducible refine And.intro ?_ ?_) | (intro h))
  all_goals (try simp only [decide_eq_true_eq, decide_eq_false_iff_not, beq_iff_eq, bne_iff_ne, beq_eq_false_iff_ne, bne_eq_false_iff_eq, Int.toNat_natCast, ge_iff_le, gt_iff_lt, Bool.not_eq_true', Bool.not_eq_false', Int.not_lt, Int.not_le, ne_eq] at *)
  all_goals (try dsimp only [Ty.den, Ty.dflt, InT, sNew, sSmall] at *)
  all_goals (try simp only [eq4, ne4, eq3, ne3, eq2, ne2, Prod.eta, List.length_cons, List.length_nil, List.length_append, Nat.zero_add] at *)
  all_goals (try simp (disch := omega) only [wrap64] at *)
  all_goals try first | exact leafDraw (by kernel_rfl) | exact Leaf.mk trivial | (refine Leaf.mk ?_; omega) | (refine Leaf.mk ?_; unfold maxLen; omega)
  erw [min6_of]
  generalize hN : (rdSmall b 0).1 = N
  generalize hb0 : (rdSmall b 0).2.1 = b0 at *
  generalize he0 : (rdSmall b 0).2.2 = e0
  have h0 : ∀ n, checkI n = 0 → nnI n → layI n = b → min6 N = n.2.1.length ∧ b0 = n.1.flatMap putText ++ kfrom n.2.1 n.2.2 ∧ e0 = 0 := fun n hc hn hb => by
    have v := valI hc
    have h1 := v.hd hb
    have h2 := v.k6
    rw [h1] at hN hb0 he0
    refine ⟨?_, hb0.symm, he0.symm⟩
    rw [← hN, min6, if_neg (by dsimp only; omega)]
  have hM : min6 N ≤ 6 := by unfold min6; split <;> omega
  generalize min6 N = M at *
  refine LoopVC.weak [(.cell 2 0, .nil 9 .str)] (fun a : Nat × List Int × Int × List S8 => [(7, .i .i64 a.1)]) (fun a => [(1, .box [.sl (.int .u8) a.2.1, .i .i64 a.2.2.1]), (3, .arr 9 .str a.2.2.2)]) (fun a => 1 ≤ a.1 ∧ a.1 ≤ 7 ∧ a.2.1 <:+ b ∧ a.2.2.2.length + 1 = a.1 ∧ (∀ p ∈ a.2.2.2, p.length ≤ 16) ∧ ∀ n, checkI n = 0 → nnI n → layI n = b → M = n.2.1.length ∧ a.1 ≤ n.2.1.length ∧ a.2.1 = (n.1.drop (a.1 - 1)).flatMap putText ++ kfrom n.2.1 n.2.2 ∧ a.2.2.1 = 0 ∧ a.2.2.2 = n.1.take (a.1 - 1)) (fun a => 7 - a.1) (1, b0, e0, []) (Ev.mk ?_)
  (conv => whnf)
  refine ⟨Leaf.mk ?_, Leaf.mk ?_, ?_⟩
  · rfl
  · refine ⟨by dsimp only; omega, by dsimp only; omega, hb1, rfl, fun p hp => by simp at hp, fun n hc hn hb => ?_⟩
    have v := valI hc
    have h2 := v.k2
    obtain ⟨h1, h3, h4⟩ := h0 n hc hn hb
    exact ⟨h1, by dsimp only; omega, h3, h4, rfl⟩
  intro ⟨i, rb, re, acc⟩ ⟨hi1, hi7, hrb, hacc, hat, hv⟩
  dsimp only at hi1 hi7 hrb hacc hat hv ⊢
  have hrl := suf_len hrb
  repeat' (first | ((with_reducible refine Ev.mk ?_); conv => whnf) | (with_reducible refine And.intro ?_ ?_) | (intro h))
  all_goals (try simp only [decide_eq_true_eq, decide_eq_false_iff_not, beq_iff_eq, bne_iff_ne, beq_eq_false_iff_ne, bne_eq_false_iff_eq, Int.toNat_natCast, ge_iff_le, gt_iff_lt, Bool.not_eq_true', Bool.not_eq_false', Int.not_lt, Int.not_le, ne_eq] at *)
  all_goals (try dsimp only [Ty.den, Ty.dflt, InT, sNew, sSmall, sText] at *)
  all_goals (try simp only [eq4, ne4, eq3, ne3, eq2, ne2, Prod.eta, List.length_cons, List.length_nil, List.length_append, Nat.zero_add] at *)
  all_goals (try simp (disch := omega) only [wrap64] at *)
  all_goals try first | exact leafDraw (by kernel_rfl) | exact Leaf.mk trivial | (refine Leaf.mk ?_; omega) | (refine Leaf.mk ?_; unfold maxLen; omega)
  · have hts := rdText_suf rb re 16
    have htm := rdText_max9 rb re (m := 16) (by decide)
    refine Leaf.mk (Exists.intro (i + 1, (rdText rb re 16).2.1, (rdText rb re 16).2.2, acc ++ [(rdText rb re 16).1]) ⟨rfl, ⟨by dsimp only; omega, by dsimp only; omega, hts.trans hrb, by dsimp only; rw [List.length_append, List.length_singleton]; omega, fun p hp => ?_, fun n hc hn hb => ?_⟩, by dsimp only; omega⟩)
    · rcases List.mem_append.1 hp with hp | hp
      · exact hat p hp
      · rw [List.mem_singleton] at hp; subst hp; omega
    · obtain ⟨h1, h2, h3, h4, h5⟩ := hv n hc hn hb
      have v := valI hc
      have hw2 := v.w2
      have h6 := v.piv (i := i - 1) (by omega) (kfrom n.2.1 n.2.2)
      dsimp only
      rw [h3, h4, h6, h5, show i + 1 - 1 = i - 1 + 1 by omega]
      exact ⟨h1, by omega, rfl, rfl, (take_at [] (show i - 1 < n.1.length by omega)).symm⟩
  clear hrl
  have hv1 : ∀ n, checkI n = 0 → nnI n → layI n = b → M = n.2.1.length ∧ rb = kfrom n.2.1 n.2.2 ∧ re = 0 ∧ acc = n.1 := fun n hc hn hb => by
    obtain ⟨h1, h2, h3, h4, h5⟩ := hv n hc hn hb
    have hw2 := (valI hc).w2
    rw [drop_end (by omega)] at h3
    exact ⟨h1, h3, h4, by rw [h5, List.take_of_length_le (by omega)]⟩
  clear hv
  refine LoopVC.weak [(.cell 2 1, .nil 3 (.int .i64)), (.cell 2 2, .nil 25 (.slice MsgT))] (fun a : Nat × List Int × Int × List Int × List (List Msg) => [(35, .i .i64 a.1)]) (fun a => [(1, .box [.sl (.int .u8) a.2.1, .i .i64 a.2.2.1]), (4, .arr 3 (.int .i64) a.2.2.2.1), (5, .arr 25 (.slice MsgT) a.2.2.2.2)]) (fun a => (a.1 : Int) ≤ max M 0 ∧ a.2.1 <:+ b ∧ a.2.2.2.1.length = a.1 ∧ a.2.2.2.2.length = a.1 ∧ a.2.2.2.2.flatten.length + a.2.1.length ≤ b.length ∧ (∀ l ∈ a.2.2.2.2, ∀ m ∈ l, 0 ≤ m.1) ∧ ∀ n, checkI n = 0 → nnI n → layI n = b → M = n.2.1.length ∧ acc = n.1 ∧ a.2.1 = kfrom (n.2.1.drop a.1) (n.2.2.drop a.1) ∧ a.2.2.1 = 0 ∧ a.2.2.2.1 = n.2.1.take a.1 ∧ a.2.2.2.2 = n.2.2.take a.1) (fun a => 7 - a.1) (0, rb, re, [], []) (Ev.mk ?_)
  (conv => whnf)
  refine ⟨Leaf.mk ?_, Leaf.mk ?_, ?_⟩
  · rfl
  · have := suf_len hrb
    refine ⟨by dsimp only; omega, hrb, rfl, rfl, by dsimp only; simp; exact this, fun l hl => by simp at hl, fun n hc hn hb => ?_⟩
    obtain ⟨h1, h3, h4, h5⟩ := hv1 n hc hn hb
    exact ⟨h1, h5, h3, h4, rfl, rfl⟩
  clear hv1 hrb
  intro ⟨i, rb, re, ks, bs⟩ ⟨hi, hrb, hks, hbs, hfl, hnn, hv⟩
  dsimp only at hi hrb hks hbs hfl hnn hv ⊢
  have hrl := suf_len hrb
  have hs1 := rdSmall_suf rb re
  have hs2 := rdSmall_suf (rdSmall rb re).2.1 (rdSmall rb re).2.2
  have hs1l := suf_len hs1
  have hs2l := suf_len hs2
  repeat' (first | ((with_reducible refine Ev.mk ?_); conv => whnf) | (with_reducible refine And.intro ?_ ?_) | (intro h))
  all_goals (try simp only [decide_eq_true_eq, decide_eq_false_iff_not, beq_iff_eq, bne_iff_ne, beq_eq_false_iff_ne, bne_eq_false_iff_eq, Int.toNat_natCast, ge_iff_le, gt_iff_lt, Bool.not_eq_true', Bool.not_eq_false', Int.not_lt, Int.not_le, ne_eq] at *)
  all_goals (try dsimp only [Ty.den, Ty.dflt, InT, sNew, sSmall, sText, sLeft] at *)
  all_goals (try simp only [eq4, ne4, eq3, ne3, eq2, ne2, Prod.eta, List.length_cons, List.length_nil, List.length_append, Nat.zero_add] at *)
  all_goals (try simp (disch := omega) only [wrap64] at *)
  all_goals try first | exact leafDraw (by kernel_rfl) | exact Leaf.mk trivial | (refine Leaf.mk ?_; omega) | (refine Leaf.mk ?_; unfold maxLen; omega)
  · have hRB := hs2.trans (hs1.trans hrb)
    have hcut := suf_cut hRB
    simp only [hcut]
    clear hcut
    have hk : ∀ n, checkI n = 0 → nnI n → layI n = b → M = n.2.1.length ∧ acc = n.1 ∧ (rdSmall rb re).1 = n.2.1.getD i 0 ∧ (rdSmall (rdSmall rb re).2.1 (rdSmall rb re).2.2).1 = (((n.2.2.getD i []).length : Nat) : Int) ∧ (rdSmall (rdSmall rb re).2.1 (rdSmall rb re).2.2).2.1 = (n.2.2.getD i []).flatMap pm ++ kfrom (n.2.1.drop (i + 1)) (n.2.2.drop (i + 1)) ∧ ks = n.2.1.take i ∧ bs = n.2.2.take i := fun n hc hn hb => by
      obtain ⟨h1, h2, h3, h4, h5, h6⟩ := hv n hc hn hb
      have v := valI hc
      obtain ⟨g1, g2⟩ := v.kid (i := i) (by omega)
      rw [h3, h4, g1]
      dsimp only
      rw [g2]
      exact ⟨h1, h2, rfl, rfl, rfl, h5, h6⟩
    generalize hk1 : (rdSmall rb re).1 = k1 at *
    have hR2 : ((rdSmall (rdSmall rb re).2.1 (rdSmall rb re).2.2).2.1).length ≤ rb.length := by omega
    generalize (rdSmall (rdSmall rb re).2.1 (rdSmall rb re).2.2).1 = k2 at *
    generalize (rdSmall (rdSmall rb re).2.1 (rdSmall rb re).2.2).2.1 = R2 at *
    clear hv hs1 hs2 hs1l hs2l
    refine LoopVC.weak [(.slot 8, .nil 32 MsgT)] (fun a : Nat × List Int × List Msg => [(11, .i .i64 a.1), (10, .sl (.int .u8) a.2.1)]) (fun a => [(2, .arr 32 MsgT a.2.2)]) (fun a => a.2.1 <:+ b ∧ a.2.2.length = a.1 ∧ a.1 + a.2.1.length ≤ R2.length ∧ (∀ m ∈ a.2.2, 0 ≤ m.1) ∧ ∀ n, checkI n = 0 → nnI n → layI n = b → a.1 ≤ (n.2.2.getD i []).length ∧ a.2.1 = ((n.2.2.getD i []).drop a.1).flatMap pm ++ kfrom (n.2.1.drop (i + 1)) (n.2.2.drop (i + 1)) ∧ a.2.2 = (n.2.2.getD i []).take a.1) (fun a => a.2.1.length) (0, R2, []) (Ev.mk ?_)
    (conv => whnf)
    refine ⟨Leaf.mk ?_, Leaf.mk ?_, ?_⟩
    · rfl
    · refine ⟨hRB, rfl, by dsimp only; omega, fun m hm => by simp at hm, fun n hc hn hb => ?_⟩
      obtain ⟨h1, h2, h3, h4, h5, h6⟩ := hk n hc hn hb
      exact ⟨Nat.zero_le _, h5, rfl⟩
    intro ⟨j, rest, buf⟩ ⟨hrs, hbl, hjl, hnb, hw⟩
    dsimp only at hrs hbl hjl hnb hw ⊢
    have hrsl := suf_len hrs
    repeat' (first | ((with_reducible refine Ev.mk ?_); conv => whnf) | (with_reducible refine And.intro ?_ ?_) | (intro h))
    all_goals (try simp only [decide_eq_true_eq, decide_eq_false_iff_not, beq_iff_eq, bne_iff_ne, beq_eq_false_iff_ne, bne_eq_false_iff_eq, Int.toNat_natCast, ge_iff_le, gt_iff_lt, Bool.not_eq_true', Bool.not_eq_false', Int.not_lt, Int.not_le, ne_eq] at *)
    all_goals (try dsimp only [Ty.den, Ty.dflt, InT, sNew, sMGet] at *)
    all_goals (try simp only [eq4, ne4, eq3, ne3, eq2, ne2, Prod.eta, List.length_cons, List.length_nil, List.length_append, Nat.zero_add] at *)
    all_goals (try simp (disch := omega) only [wrap64] at *)
    all_goals try first | exact leafDraw (by kernel_rfl) | exact Leaf.mk trivial | (refine Leaf.mk ?_; omega) | (refine Leaf.mk ?_; unfold maxLen; omega)
    all_goals try
      have hst := getM_step (b := rest) ‹(getM rest).2.2 = 0›
    · refine Leaf.mk (retGi (u := (inn0, 4)) (v := getI b) (getI_not fun n hc hn hb => ?_).symm)
      obtain ⟨h1, h2, h3, h4, h5, h6, h7⟩ := hk n hc hn hb
      obtain ⟨g1, g2, g3⟩ := hw n hc hn hb
      have v := valI hc
      have h9 := (v.msg hn (i := i) (j := j) (by have := v.w1; omega) (by omega) (kfrom (n.2.1.drop (i + 1)) (n.2.2.drop (i + 1)))).1
      rw [← g2] at h9
      exact absurd (by rw [h9]) ‹¬ (getM rest).2.2 = 0›
    · exact Leaf.mk (by omega)
    · exact Leaf.mk (by omega)
    · refine Leaf.mk (Exists.intro (j + 1, rest.drop (getM rest).2.1.toNat, buf ++ [(getM rest).1]) ⟨?_, ⟨(List.drop_suffix _ _).trans hrs, by dsimp only; rw [List.length_append, List.length_singleton]; omega, by dsimp only; rw [List.length_drop]; omega, fun m hm => ?_, fun n hc hn hb => ?_⟩, by dsimp only; rw [List.length_drop]; omega⟩)
      · rw [List.take_length]; rfl
      · rcases List.mem_append.1 hm with hm | hm
        · exact hnb m hm
        · rw [List.mem_singleton] at hm; subst hm; exact getM_nn (fun x h => hB x (hrs.subset h))
      · obtain ⟨h1, h2, h3, h4, h5, h6, h7⟩ := hk n hc hn hb
        obtain ⟨g1, g2, g3⟩ := hw n hc hn hb
        have v := valI hc
        have hjl : j < (n.2.2.getD i []).length := by omega
        obtain ⟨q1, q2⟩ := v.msg hn (i := i) (j := j) (by have := v.w1; omega) hjl (kfrom (n.2.1.drop (i + 1)) (n.2.2.drop (i + 1)))
        rw [← g2] at q1 q2
        dsimp only
        rw [q1]
        dsimp only
        rw [Int.toNat_natCast, q2, g3]
        exact ⟨by omega, rfl, (take_at msg0 hjl).symm⟩
    · refine Leaf.mk (Exists.intro (i + 1, rest, 0, ks ++ [k1], bs ++ [buf]) ⟨rfl, ⟨by dsimp only; omega, hrs, by dsimp only; rw [List.length_append, List.length_singleton]; omega, by dsimp only; rw [List.length_append, List.length_singleton]; omega, ?_, fun l hl => ?_, fun n hc hn hb => ?_⟩, by dsimp only; omega⟩)
      · dsimp only
        rw [List.flatten_append, List.length_append, List.flatten_cons, List.flatten_nil, List.append_nil]; omega
      · rcases List.mem_append.1 hl with hl | hl
        · exact hnn l hl
        · rw [List.mem_singleton] at hl; subst hl; exact hnb
      · obtain ⟨h1, h2, h3, h4, h5, h6, h7⟩ := hk n hc hn hb
        obtain ⟨g1, g2, g3⟩ := hw n hc hn hb
        have v := valI hc
        have hi9 : i < n.2.1.length := by omega
        have hj9 : j = (n.2.2.getD i []).length := by omega
        dsimp only
        rw [hj9, List.drop_length, List.flatMap_nil, List.nil_append] at g2
        rw [hj9, List.take_length] at g3
        rw [h6, h7, h3, g3, take_at (0 : Int) hi9, take_at ([] : List Msg) (show i < n.2.2.length by have := v.w1; omega)]
        exact ⟨h1, h2, g2, rfl, rfl, rfl⟩
  all_goals try
    have hend : ∀ n, checkI n = 0 → nnI n → layI n = b → (acc, ks, bs) = n := fun n hc hn hb => by
      obtain ⟨h1, h2, h3, h4, h5, h6⟩ := hv n hc hn hb
      have := (valI hc).w1
      rw [List.take_of_length_le (by omega)] at h5 h6
      obtain ⟨x, y, z⟩ := n
      dsimp only at h2 h5 h6
      rw [h2, h5, h6]
    have hnI : nnI (acc, ks, bs) := hnn
  · exact Leaf.mk (show IPre (acc, ks, bs) from ⟨by dsimp only; omega, fun p hp => by have := hat p hp; omega, by dsimp only; omega, by dsimp only; omega, by dsimp only; omega⟩)
  · exact Leaf.mk (retGi (u := (inn0, 4)) (v := getI b) (finI_bad hend (show ¬ (putI (acc, ks, bs)).2 = 0 from ‹_›)).symm)
  · exact Leaf.mk (retGi (u := (inn0, 4)) (v := getI b) (finI_not hend (show (putI (acc, ks, bs)).2 = 0 from ‹_›) (fun hc => beq_eq_false_iff_ne.1 (show (strOfBytes b == strOfBytes (putI (acc, ks, bs)).1) = false from ‹_›) hc.symm)).symm)
  · exact Leaf.mk (retGi (u := ((acc, ks, bs), 0)) (v := getI b) (finI_yes hB hnI (show (putI (acc, ks, bs)).2 = 0 from ‹_›) (beq_iff_eq.1 (show (strOfBytes b == strOfBytes (putI (acc, ks, bs)).1) = true from ‹_›)).symm).symm)
end Go.Proofs.Ytoedpnniaikfbaa

set_option linter.unusedVariables false
set_option linter.unusedSimpArgs false
set_option maxRecDepth 8000
set_option maxHeartbeats 4000000
namespace Go.Proofs.Ytoedpnniaikfbaa
open Go.Eng
def twoI : Inn := ([[109]], [1, 2], [[], []])
def sTwo : PSpec := ⟨[], [⟨true, [.d InT]⟩], fun _ => True, fun _ => ((twoI, ()), ())⟩
theorem fTwo : FnOk Try.prog 92 := ⟨_, Try.func92, by decide, rfl⟩
theorem pTwo : PSound Try.prog 92 sTwo := by
  refine psound (T := tab) (S := (spOf [])) (keep := k92) (by kernel_rfl) tabOk spNil (by kernel_rfl) Try.func92 (by kernel_rfl) (by decide) fun xs hg hp => ?_
  obtain ⟨⟩ := xs
  show vfun tab _ k92 Try.f92 [] [] _
  refine Ev.out ?_
  repeat' (first | ((with_reducible refine Ev.mk ?_); conv => whnf) | (with_reducible refine And.intro ?_ ?_) | (intro h; first | exact absurd h (by decide +kernel) | skip))
  all_goals first
    | exact Leaf.mk rfl
    | skip
def sAwake15 : PSpec := ⟨[], [⟨false, [.d .bool]⟩], fun _ => True, fun _ => ((true, ()), ())⟩
theorem fAwake15 : FnOk Try.prog 38 := ⟨_, Try.func38, by decide, rfl⟩
theorem pAwake15 : PSound Try.prog 38 sAwake15 := by
  refine psound (T := tab) (S := (spOf [(92, sTwo.spec (lsOf [])), (45, sIAdd.spec (lsOf [])), (40, sITake.spec (lsOf [])), (93, sIPut.spec (lsOf [])), (94, sIGet.spec (lsOf [])), (47, sIRenew.spec (lsOf [])), (49, sIGrow.spec (lsOf [])), (42, sISplit.spec (lsOf [])), (52, sBounds.spec (lsOf [])), (54, sWeigh.spec (lsOf [])), (95, sFullest.spec (lsOf [])), (55, sISize.spec (lsOf [])), (96, sISame.spec (lsOf [])), (53, sRoute.spec (lsOf [])), (51, sICheck.spec (lsOf []))])) (keep := k38) (by kernel_rfl) tabOk (spCons (pOk pTwo fTwo (by decide) lsNil) (spCons (pOk pIAdd fIAdd (by decide) lsNil) (spCons (pOk pITake fITake (by decide) lsNil) (spCons (pOk pIPut fIPut (by decide) lsNil) (spCons (pOk pIGet fIGet (by decide) lsNil) (spCons (pOk pIRenew fIRenew (by decide) lsNil) (spCons (pOk pIGrow fIGrow (by decide) lsNil) (spCons (pOk pISplit fISplit (by decide) lsNil) (spCons (pOk pBounds fBounds (by decide) lsNil) (spCons (pOk pWeigh fWeigh (by decide) lsNil) (spCons (pOk pFullest fFullest (by decide) lsNil) (spCons (pOk pISize fISize (by decide) lsNil) (spCons (pOk pISame fISame (by decide) lsNil) (spCons (pOk pRoute fRoute (by decide) lsNil) (spCons (pOk pICheck fICheck (by decide) lsNil) spNil))))))))))))))) (by kernel_rfl) Try.func38 (by kernel_rfl) (by decide) fun xs hg hp => ?_
  obtain ⟨⟩ := xs
  show vfun tab _ k38 Try.f38 [] [] _
  refine Ev.out ?_
  repeat' (first | ((with_reducible refine Ev.mk ?_); conv => whnf) | (with_reducible refine And.intro ?_ ?_) | (intro h; first | exact absurd h (by decide +kernel) | skip))
  all_goals first
    | exact Leaf.mk trivial
    | exact leafDraw (by kernel_rfl)
    | (refine Leaf.mk ?_; change IPre _; decide +kernel)
    | (refine Leaf.mk ?_; change (_ : Nat) ≤ _; decide +kernel)
    | (refine Leaf.mk ?_; change (_ : Nat) ≤ _ ∧ (_ : Nat) ≤ _; decide +kernel)
    | (refine Leaf.mk ?_; decide +kernel)
    | exact Leaf.mk rfl
    | skip
end Go.Proofs.Ytoedpnniaikfbaa

set_option linter.unusedVariables false
set_option linter.unusedSimpArgs false
set_option maxRecDepth 8000
set_option maxHeartbeats 4000000
namespace Go.Proofs.Ytoedpnniaikfbaa
open Go.Eng
theorem sameM_self {a : List Msg} (h : sameM a a = false) {P : Prop} : P := absurd h (by rw [sameM, decide_eq_true rfl]; simp)
end Go.Proofs.Ytoedpnniaikfbaa

set_option linter.unusedVariables false
set_option linter.unusedSimpArgs false
set_option maxRecDepth 8000
set_option maxHeartbeats 4000000
namespace Go.Proofs.Ytoedpnniaikfbaa
open Go.Eng
theorem sameM_no {a b : List Msg} (h : sameM a b = false) (e : a = b) : False := by subst e; exact sameM_self h
def sInnerHalves : PSpec := lawSpec [InT, .str]
theorem pInnerHalves : PSound Try.prog 12 sInnerHalves := by
  refine psound (T := tab) (S := (spOf [(37, sLightI.spec (lsOf [])), (39, sOwnL.spec (lsOf [])), (51, sICheck.spec (lsOf [])), (42, sISplit.spec (lsOf [])), (56, sAboutL.spec (lsOf [])), (25, sSameM.spec (lsOf [])), (38, sAwake15.spec (lsOf []))])) (keep := k12) (by kernel_rfl) tabOk (spCons (pOk pLightI fLightI (by decide) lsNil) (spCons (pOk pOwnL fOwnL (by decide) lsNil) (spCons (pOk pICheck fICheck (by decide) lsNil) (spCons (pOk pISplit fISplit (by decide) lsNil) (spCons (pOk pAboutL fAboutL (by decide) lsNil) (spCons (pOk pSameM fSameM (by decide) lsNil) (spCons (pOk pAwake15 fAwake15 (by decide) lsNil) spNil))))))) (by kernel_rfl) Try.func12 (by kernel_rfl) (by decide) fun xs hg hp => ?_
  obtain ⟨⟨ps, ks, bs⟩, key, ⟨⟩⟩ := xs
  clear hp hg
  change List (List UInt8) at ps
  change List Int at ks
  change List (List Msg) at bs
  change List UInt8 at key
  show vfun tab _ k12 Try.f12 [.agg [.sl .str ps, .sl (.int .i64) ks, .sl (.slice MsgT) bs], .s key] [] _
  refine Ev.out ?_
  repeat' (first | ((with_reducible refine Ev.mk ?_); conv => whnf) | (with_reducible refine And.intro ?_ ?_) | (intro h))
  all_goals (try simp only [decide_eq_true_eq, decide_eq_false_iff_not, beq_iff_eq, bne_iff_ne, beq_eq_false_iff_ne, bne_eq_false_iff_eq, Int.toNat_natCast, ge_iff_le, gt_iff_lt, Bool.not_eq_true', Bool.not_eq_false', Int.not_lt, Int.not_le, ne_eq] at *)
  all_goals (try dsimp only [Ty.den, Ty.dflt, InT, sLightI, sICheck, sOwnL, sISplit, sAboutL, sSameM, sAwake15] at *)
  all_goals (try simp only [eq4, ne4, eq3, ne3, eq2, ne2, Prod.eta, List.length_cons, List.length_nil, List.length_append, Nat.zero_add] at *)
  all_goals (try simp (disch := omega) only [wrap64] at *)
  all_goals try first | exact leafDraw (by kernel_rfl) | exact Leaf.mk trivial | (refine Leaf.mk ?_; omega) | (refine Leaf.mk ?_; unfold maxLen; omega)
  all_goals first
    | exact Leaf.mk rfl
    | skip
  all_goals
    have hL := lightI_pre (show lightI (ps, ks, bs) = true by assumption)
    obtain ⟨hI, hB⟩ := hL
    have hbb := hI.b
    dsimp only at hB hbb
  all_goals first
    | exact Leaf.mk hI
    | skip
  all_goals
    have hc0 : checkI (ps, ks, bs) = 0 := by assumption
    have v := valI hc0
    have k2 := v.k2
    have w1 := v.w1
    have w2 := v.w2
    dsimp only at k2 w1 w2
    have hkl : ks.length ≤ 20 := hI.k
    have e1 := wrapHalf (n := ks.length) (by omega)
    have hsp : splitI (ps, ks, bs) = ((ps.take (ks.length / 2 - 1), ks.take (ks.length / 2), bs.take (ks.length / 2)), (ps.drop (ks.length / 2), ks.drop (ks.length / 2), bs.drop (ks.length / 2)), ps.getD (ks.length / 2 - 1) []) := split_eq v
    have l1 : (splitI (ps, ks, bs)).1.2.1.length = ks.length / 2 := by rw [hsp]; simp only [List.length_take]; omega
    have l2 : (splitI (ps, ks, bs)).1.2.2.length = ks.length / 2 := by rw [hsp]; simp only [List.length_take]; omega
    have l3 : (splitI (ps, ks, bs)).2.1.2.1.length = ks.length - ks.length / 2 := by rw [hsp]; simp only [List.length_drop]
    have l4 : (splitI (ps, ks, bs)).2.1.2.2.length = ks.length - ks.length / 2 := by rw [hsp]; simp only [List.length_drop]; omega
    have e2 : IntKind.i64.wrap (((splitI (ps, ks, bs)).1.2.1.length : Int) + ((splitI (ps, ks, bs)).2.1.2.1.length : Int)) = (ks.length : Int) := by rw [l1, l3, wrap64 (by omega)]; omega
    have g1 : ∀ j, j < ks.length / 2 → (splitI (ps, ks, bs)).1.2.1.getD j 0 = ks.getD j 0 := fun j hj => by rw [hsp]; exact getDd_take hj
    have g2 : ∀ j, ks.length / 2 ≤ j → (splitI (ps, ks, bs)).2.1.2.1.getD (j - ks.length / 2) 0 = ks.getD j 0 := fun j hj => by rw [hsp]; dsimp only; rw [getD_drop, show ks.length / 2 + (j - ks.length / 2) = j by omega]
  all_goals first
    | (exfalso; omega)
    | skip
  have a1 := half_lo (key := key) v
  have a2 := half_hi (key := key) v
  have pc := ipre_cut hI
  have p1 : IPre (splitI (ps, ks, bs)).1 := by rw [hsp]; simpa using pc (ks.length / 2 - 1) 0 (ks.length / 2) 0 (ks.length / 2) 0
  have p2 : IPre (splitI (ps, ks, bs)).2.1 := by rw [hsp]; simpa using pc ps.length (ks.length / 2) ks.length (ks.length / 2) bs.length (ks.length / 2)
  clear hsp pc
  generalize splitI (ps, ks, bs) = sp at *
  obtain ⟨⟨pa, ka, ba⟩, ⟨pb, kb, bb⟩, sep⟩ := sp
  dsimp only at *
  refine LoopVC.on (fun i : Nat => [(9, .i .i64 i)]) (fun _ => []) (fun i => i ≤ ks.length) (fun i => ks.length - i) 0 rfl (by omega) ?_
  intro i hi
  repeat' (first | ((with_reducible refine Ev.mk ?_); conv => whnf) | (with_reducible refine And.intro ?_ ?_) | (intro h))
  all_goals (try simp only [decide_eq_true_eq, decide_eq_false_iff_not, beq_iff_eq, bne_iff_ne, beq_eq_false_iff_ne, bne_eq_false_iff_eq, Int.toNat_natCast, ge_iff_le, gt_iff_lt, Bool.not_eq_true', Bool.not_eq_false', Int.not_lt, Int.not_le, ne_eq] at *)
  all_goals (try dsimp only [Ty.den, Ty.dflt, InT, sLightI, sICheck, sOwnL, sISplit, sAboutL, sSameM, sAwake15] at *)
  all_goals (try simp only [eq4, ne4, eq3, ne3, eq2, ne2, Prod.eta, List.length_cons, List.length_nil, List.length_append, Nat.zero_add] at *)
  all_goals (try simp (disch := omega) only [wrap64] at *)
  all_goals try first | exact leafDraw (by kernel_rfl) | exact Leaf.mk trivial | (refine Leaf.mk ?_; omega) | (refine Leaf.mk ?_; unfold maxLen; omega)
  all_goals first
    | exact Leaf.mk rfl
    | exact Leaf.mk (Exists.intro (i + 1) ⟨rfl, by omega, by omega⟩)
    | (exfalso; exact (show ¬ ka.getD i 0 = ks.getD i 0 by assumption) (g1 i (by omega)))
    | (exfalso
       have h9 : ¬ kb.getD ((i : Int) - (ka.length : Int)).toNat 0 = ks.getD i 0 := by assumption
       rw [show ((i : Int) - (ka.length : Int)).toNat = i - ks.length / 2 by omega] at h9
       exact h9 (g2 i (by omega)))
    | (exfalso
       have h9 : sless key sep = false := by assumption
       rw [sless_eq, decide_eq_false_iff_not] at h9
       exact sameM_no (by assumption) (a2 h9))
    | (exfalso
       have h9 : sless key sep = true := by assumption
       exact sameM_no (by assumption) (a1 (sless_iff.1 h9)))
end Go.Proofs.Ytoedpnniaikfbaa
