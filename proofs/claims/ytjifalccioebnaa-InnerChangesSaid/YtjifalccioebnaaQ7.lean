import Derived.Test.YtjifalccioebnaaQ6
import Derived.Test.YtjifalccioebnaaEng5
import Derived.Test.YtjifalccioebnaaTab
import Derived.Test.YtjifalccioebnaaEng4
import Derived.Shelf.Sort.Plain
import Derived.Test.YtjifalccioebnaaProg
/- Texts, one behind the other. -/
set_option linter.unusedVariables false
set_option linter.unusedSimpArgs false
set_option maxRecDepth 8000
set_option maxHeartbeats 4000000
namespace Go.Proofs.Ytjifalccioebnaa
open Go.Eng
abbrev MsgT : Ty := .pair (.int .u8) (.pair .str (.pair (.int .i64) (.pair (.int .i64) (.pair .bool .str))))
abbrev Msg := Int × List UInt8 × Int × Int × Bool × List UInt8
abbrev msg0 : Msg := (0, [], 0, 0, false, [])
abbrev FldT : Ty := .pair .bool (.pair .bool .bool)
def ofK (k : Int) : Bool × Bool × Bool := (decide (k = 0), decide (k = 0 ∨ k = 1 ∨ k = 2), decide (k = 1 ∨ k = 3))
def sOf : PSpec := ⟨[.d (.int .u8)], [⟨true, [.d FldT]⟩], fun _ => True, fun x => ((ofK x.1, ()), ())⟩
theorem fOf : FnOk Try.prog 62 := ⟨_, Try.func62, by decide, rfl⟩
theorem pOf : PSound Try.prog 62 sOf := by
  refine psound (T := tab) (S := (spOf [])) (keep := k62) (by kernel_rfl) tabOk spNil (by kernel_rfl) Try.func62 (by kernel_rfl) (by decide) fun xs hg hp => ?_
  obtain ⟨k, ⟨⟩⟩ := xs
  change Int at k
  show vfun tab _ k62 Try.f62 [.i .u8 k] [] _
  refine Ev.out ?_
  repeat' (first | ((with_reducible refine Ev.mk ?_); conv => whnf) | (with_reducible refine And.intro ?_ ?_) | (intro h))
  all_goals (try simp only [decide_eq_true_eq, decide_eq_false_iff_not, beq_iff_eq, bne_iff_ne, beq_eq_false_iff_ne, bne_eq_false_iff_eq, Int.toNat_natCast, ge_iff_le, gt_iff_lt, Bool.not_eq_true', Bool.not_eq_false', Int.not_lt, Int.not_le, ne_eq] at *)
  all_goals (try dsimp only [Ty.den, Ty.dflt, MsgT] at *)
  all_goals (try simp only [eq4, ne4, eq3, ne3, eq2, ne2, Prod.eta, List.length_cons, List.length_nil, List.length_append, Nat.zero_add] at *)
  all_goals (try simp (disch := omega) only [wrap64] at *)
  all_goals
    refine Leaf.mk (ret1 (show _ = ofK k from ?_))
    unfold ofK
    simp_all
def sMIn : PSpec := sIn
theorem fMIn : FnOk Try.prog 63 := ⟨_, Try.func63, by decide, rfl⟩
theorem pMIn : PSound Try.prog 63 sMIn := by
  refine psound (T := tab) (S := (spOf [])) (keep := k63) (by kernel_rfl) tabOk spNil (by kernel_rfl) Try.func63 (by kernel_rfl) (by decide) fun xs hg hp => ?_
  obtain ⟨n, ⟨⟩⟩ := xs
  change Int at n
  show vfun tab _ k63 Try.f63 [.i .i64 n] [] _
  refine Ev.out ?_
  repeat' (first | ((with_reducible refine Ev.mk ?_); conv => whnf) | (with_reducible refine And.intro ?_ ?_) | (intro h))
  all_goals (try simp only [decide_eq_true_eq, decide_eq_false_iff_not, beq_iff_eq, bne_iff_ne, beq_eq_false_iff_ne, bne_eq_false_iff_eq, Int.toNat_natCast, ge_iff_le, gt_iff_lt, Bool.not_eq_true', Bool.not_eq_false', Int.not_lt, Int.not_le, ne_eq] at *)
  all_goals (try dsimp only [Ty.den, Ty.dflt, VerT] at *)
  all_goals (try simp only [eq4, ne4, eq3, ne3, eq2, ne2, Prod.eta, List.length_cons, List.length_nil, List.length_append, Nat.zero_add] at *)
  all_goals (try simp (disch := omega) only [wrap64] at *)
  all_goals
    refine Leaf.mk (ret1 (show _ = inB n from ?_))
    simp only [inB]
    first
    | (rw [decide_eq_false (p := 0 ≤ n ∧ n ≤ 1099511627776) (by omega)]; done)
    | (congr 1; simp only [eq_iff_iff]; omega)
def mForm (m : Msg) : Prop := (m.1 = 0 ∨ (m.2.2.2.2.1 = false ∧ m.2.1.length = 0 ∧ m.2.2.2.2.2.length = 0)) ∧ (m.1 = 3 → m.2.2.1 = 0) ∧ (m.1 = 0 ∨ m.1 = 2 → m.2.2.2.1 = 0) ∧ (m.2.2.2.2.1 = false ∨ m.2.2.2.2.2.length = 0)
instance (m : Msg) : Decidable (mForm m) := by unfold mForm; infer_instance
def mcheck (m : Msg) : Int := if 3 < m.1 then 13 else if ¬ mForm m then 4 else if ¬ (inB m.2.2.1 = true ∧ inB m.2.2.2.1 = true) ∨ (m.1 = 1 ∧ m.2.2.2.1 = 0) then 9 else if 16 < m.2.1.length ∨ 24 < m.2.2.2.2.2.length then 5 else 0
def sMCheck : PSpec := ⟨[.d MsgT], [⟨false, [.d (.int .i64)]⟩], fun _ => True, fun x => ((mcheck x.1, ()), ())⟩
theorem fMCheck : FnOk Try.prog 37 := ⟨_, Try.func37, by decide, rfl⟩
theorem pMCheck : PSound Try.prog 37 sMCheck := by
  refine psound (T := tab) (S := (spOf [(62, sOf.spec (lsOf [])), (63, sMIn.spec (lsOf []))])) (keep := k37) (by kernel_rfl) tabOk (spCons (pOk pOf fOf (by decide) lsNil) (spCons (pOk pMIn fMIn (by decide) lsNil) spNil)) (by kernel_rfl) Try.func37 (by kernel_rfl) (by decide) fun xs hg hp => ?_
  obtain ⟨⟨kind, key, txn, ts, gone, val⟩, ⟨⟩⟩ := xs
  obtain ⟨⟨hk, hkl, htx, hts, -, hvl⟩, -⟩ := hg
  change List UInt8 at key
  change List UInt8 at val
  change Int at kind txn ts
  change Bool at gone
  change key.length ≤ _ at hkl
  change val.length ≤ _ at hvl
  have hkl := len63 hkl
  have hvl := len63 hvl
  have hk := bdu8 hk
  show vfun tab _ k37 Try.f37 [.agg [.i .u8 kind, .s key, .i .i64 txn, .i .i64 ts, .b gone, .s val]] [] _
  refine Ev.out ?_
  repeat' (first | ((with_reducible refine Ev.mk ?_); conv => whnf) | (with_reducible refine And.intro ?_ ?_) | (intro h))
  all_goals (try simp only [decide_eq_true_eq, decide_eq_false_iff_not, beq_iff_eq, bne_iff_ne, beq_eq_false_iff_ne, bne_eq_false_iff_eq, Int.toNat_natCast, ge_iff_le, gt_iff_lt, Bool.not_eq_true', Bool.not_eq_false', Int.not_lt, Int.not_le, ne_eq] at *)
  all_goals (try dsimp only [Ty.den, Ty.dflt, MsgT, sOf, ofK, sMIn, sIn] at *)
  all_goals (try simp only [eq4, ne4, eq3, ne3, eq2, ne2, Prod.eta, List.length_cons, List.length_nil, List.length_append, Nat.zero_add] at *)
  all_goals (try simp (disch := omega) only [wrap64] at *)
  all_goals try first | exact leafDraw (by kernel_rfl) | exact Leaf.mk trivial | (refine Leaf.mk ?_; omega) | (refine Leaf.mk ?_; unfold maxLen; omega)
  all_goals try simp only [← List.length_eq_zero_iff] at *
  all_goals try simp only [inB, decide_eq_true_eq, decide_eq_false_iff_not] at *
  all_goals
    refine Leaf.mk (ret1 (show (_ : Int) = mcheck (kind, key, txn, ts, gone, val) from ?_))
    simp only [mcheck, mForm, inB, decide_eq_true_eq]
    cases gone
  all_goals try simp only [reduceCtorEq, false_and, true_and, and_true, or_true, true_or, false_or, or_false, not_true_eq_false, not_false_eq_true] at *
  all_goals
    repeat' split
  all_goals first | rfl | (exfalso; omega)
def sMCheckR : PSpec := sMCheck
def onlyF (m : Msg) : Msg := if m.1 = 0 then (m.1, m.2.1, m.2.2.1, 0, m.2.2.2.2.1, if m.2.2.2.2.1 = true then [] else m.2.2.2.2.2) else if m.1 = 1 then (m.1, [], m.2.2.1, m.2.2.2.1, false, []) else if m.1 = 2 then (m.1, [], m.2.2.1, 0, false, []) else if m.1 = 3 then (m.1, [], 0, m.2.2.2.1, false, []) else (m.1, [], 0, 0, false, [])
def sOnly : PSpec := ⟨[.d MsgT], [⟨true, [.d MsgT]⟩], fun _ => True, fun x => ((onlyF x.1, ()), ())⟩
theorem fOnly : FnOk Try.prog 64 := ⟨_, Try.func64, by decide, rfl⟩
theorem pOnly : PSound Try.prog 64 sOnly := by
  refine psound (T := tab) (S := (spOf [])) (keep := k64) (by kernel_rfl) tabOk spNil (by kernel_rfl) Try.func64 (by kernel_rfl) (by decide) fun xs hg hp => ?_
  obtain ⟨⟨kind, key, txn, ts, gone, val⟩, ⟨⟩⟩ := xs
  obtain ⟨⟨hk, hkl, htx, hts, -, hvl⟩, -⟩ := hg
  change List UInt8 at key
  change List UInt8 at val
  change Int at kind txn ts
  change Bool at gone
  change key.length ≤ _ at hkl
  change val.length ≤ _ at hvl
  have hkl := len63 hkl
  have hvl := len63 hvl
  have hk := bdu8 hk
  show vfun tab _ k64 Try.f64 [.agg [.i .u8 kind, .s key, .i .i64 txn, .i .i64 ts, .b gone, .s val]] [] _
  refine Ev.out ?_
  repeat' (first | ((with_reducible refine Ev.mk ?_); conv => whnf) | (with_reducible refine And.intro ?_ ?_) | (intro h))
  all_goals (try simp only [decide_eq_true_eq, decide_eq_false_iff_not, beq_iff_eq, bne_iff_ne, beq_eq_false_iff_ne, bne_eq_false_iff_eq, Int.toNat_natCast, ge_iff_le, gt_iff_lt, Bool.not_eq_true', Bool.not_eq_false', Int.not_lt, Int.not_le, ne_eq] at *)
  all_goals (try dsimp only [Ty.den, Ty.dflt, MsgT] at *)
  all_goals (try simp only [eq4, ne4, eq3, ne3, eq2, ne2, Prod.eta, List.length_cons, List.length_nil, List.length_append, Nat.zero_add] at *)
  all_goals (try simp (disch := omega) only [wrap64] at *)
  all_goals try first | exact leafDraw (by kernel_rfl) | exact Leaf.mk trivial | (refine Leaf.mk ?_; omega) | (refine Leaf.mk ?_; unfold maxLen; omega)
  all_goals
    refine Leaf.mk (ret1 (show (_ : Msg) = onlyF (kind, key, txn, ts, gone, val) from ?_))
    unfold onlyF
    simp_all
section
variable {α β γ δ ε ζ : Type} [BEq α] [LawfulBEq α] [BEq β] [LawfulBEq β] [BEq γ] [LawfulBEq γ] [BEq δ] [LawfulBEq δ] [BEq ε] [LawfulBEq ε] [BEq ζ] [LawfulBEq ζ]
theorem eq6 {x y : α × β × γ × δ × ε × ζ} : (x.1 == y.1 && (x.2.1 == y.2.1 && (x.2.2.1 == y.2.2.1 && (x.2.2.2.1 == y.2.2.2.1 && (x.2.2.2.2.1 == y.2.2.2.2.1 && x.2.2.2.2.2 == y.2.2.2.2.2))))) = true ↔ x = y := by
  obtain ⟨a, b, e, g, i, j⟩ := x; obtain ⟨c, d, f, k, l, m⟩ := y
  simp
theorem ne6 {x y : α × β × γ × δ × ε × ζ} : (x.1 == y.1 && (x.2.1 == y.2.1 && (x.2.2.1 == y.2.2.1 && (x.2.2.2.1 == y.2.2.2.1 && (x.2.2.2.2.1 == y.2.2.2.2.1 && x.2.2.2.2.2 == y.2.2.2.2.2))))) = false ↔ ¬ x = y := by
  rw [← eq6, Bool.not_eq_true]
end
theorem only_iff {m : Msg} (h0 : 0 ≤ m.1) (h3 : m.1 ≤ 3) : m = onlyF m ↔ mForm m := by
  obtain ⟨kind, key, txn, ts, gone, val⟩ := m
  dsimp only at h0 h3
  unfold onlyF mForm
  dsimp only
  simp only [List.length_eq_zero_iff]
  rcases (by omega : kind = 0 ∨ kind = 1 ∨ kind = 2 ∨ kind = 3) with rfl | rfl | rfl | rfl <;> cases gone <;> simp [Prod.ext_iff] <;> grind
theorem pMCheckR : PSound Try.prog 39 sMCheckR := by
  refine psound (T := tab) (S := (spOf [(64, sOnly.spec (lsOf []))])) (keep := k39) (by kernel_rfl) tabOk (spCons (pOk pOnly fOnly (by decide) lsNil) spNil) (by kernel_rfl) Try.func39 (by kernel_rfl) (by decide) fun xs hg hp => ?_
  obtain ⟨⟨kind, key, txn, ts, gone, val⟩, ⟨⟩⟩ := xs
  obtain ⟨⟨hk, hkl, htx, hts, -, hvl⟩, -⟩ := hg
  change List UInt8 at key
  change List UInt8 at val
  change Int at kind txn ts
  change Bool at gone
  change key.length ≤ _ at hkl
  change val.length ≤ _ at hvl
  have hkl := len63 hkl
  have hvl := len63 hvl
  have hk := bdu8 hk
  show vfun tab _ k39 Try.f39 [.agg [.i .u8 kind, .s key, .i .i64 txn, .i .i64 ts, .b gone, .s val]] [] _
  refine Ev.out ?_
  repeat' (first | ((with_reducible refine Ev.mk ?_); conv => whnf) | (with_reducible refine And.intro ?_ ?_) | (intro h))
  all_goals (try simp only [decide_eq_true_eq, decide_eq_false_iff_not, beq_iff_eq, bne_iff_ne, beq_eq_false_iff_ne, bne_eq_false_iff_eq, Int.toNat_natCast, ge_iff_le, gt_iff_lt, Bool.not_eq_true', Bool.not_eq_false', Int.not_lt, Int.not_le, ne_eq] at *)
  all_goals (try dsimp only [Ty.den, Ty.dflt, MsgT, sOnly] at *)
  all_goals (try simp only [eq4, ne4, eq3, ne3, eq2, ne2, Prod.eta, List.length_cons, List.length_nil, List.length_append, Nat.zero_add] at *)
  all_goals (try simp (disch := omega) only [wrap64] at *)
  all_goals try first | exact leafDraw (by kernel_rfl) | exact Leaf.mk trivial | (refine Leaf.mk ?_; omega) | (refine Leaf.mk ?_; unfold maxLen; omega)
  all_goals try (have h9 := (only_iff (m := (kind, key, txn, ts, gone, val)) hk.1 (by dsimp only; omega)).1 (eq6.1 ‹(_ && _) = true›); simp only [mForm] at h9)
  all_goals try (have h9 := (not_congr (only_iff (m := (kind, key, txn, ts, gone, val)) hk.1 (by dsimp only; omega))).1 (ne6.1 ‹(_ && _) = false›); simp only [mForm] at h9)
  all_goals try simp only [inB, decide_eq_true_eq, decide_eq_false_iff_not] at *
  all_goals
    refine Leaf.mk (ret1 (show (_ : Int) = mcheck (kind, key, txn, ts, gone, val) from ?_))
    simp only [mcheck, mForm, inB, decide_eq_true_eq]
    cases gone
  all_goals try simp only [reduceCtorEq, false_and, true_and, and_true, or_true, true_or, false_or, or_false, not_true_eq_false, not_false_eq_true] at *
  all_goals
    repeat' split
  all_goals first | rfl | (exfalso; omega)
end Go.Proofs.Ytjifalccioebnaa

set_option linter.unusedVariables false
set_option linter.unusedSimpArgs false
set_option maxRecDepth 8000
set_option maxHeartbeats 4000000
namespace Go.Proofs.Ytjifalccioebnaa
open Go.Eng
def wide (m : Msg) : Bool := decide (1 ≤ m.1 ∧ m.1 ≤ 3)
def sWide : PSpec := ⟨[.d MsgT], [⟨false, [.d .bool]⟩], fun _ => True, fun x => ((wide x.1, ()), ())⟩
def sWideR : PSpec := sWide
theorem fWide : FnOk Try.prog 38 := ⟨_, Try.func38, by decide, rfl⟩
theorem pWide : PSound Try.prog 38 sWide := by
  refine psound (T := tab) (S := (spOf [])) (keep := k38) (by kernel_rfl) tabOk spNil (by kernel_rfl) Try.func38 (by kernel_rfl) (by decide) fun xs hg hp => ?_
  obtain ⟨⟨kind, key, txn, ts, gone, val⟩, ⟨⟩⟩ := xs
  obtain ⟨⟨hk, -⟩, -⟩ := hg
  change List UInt8 at key
  change List UInt8 at val
  change Int at kind txn ts
  change Bool at gone
  have hk := bdu8 hk
  show vfun tab _ k38 Try.f38 [.agg [.i .u8 kind, .s key, .i .i64 txn, .i .i64 ts, .b gone, .s val]] [] _
  refine Ev.out ?_
  repeat' (first | ((with_reducible refine Ev.mk ?_); conv => whnf) | (with_reducible refine And.intro ?_ ?_) | (intro h))
  all_goals (try simp only [decide_eq_true_eq, decide_eq_false_iff_not, beq_iff_eq, bne_iff_ne, beq_eq_false_iff_ne, bne_eq_false_iff_eq, Int.toNat_natCast, ge_iff_le, gt_iff_lt, Bool.not_eq_true', Bool.not_eq_false', Int.not_lt, Int.not_le, ne_eq] at *)
  all_goals (try dsimp only [Ty.den, Ty.dflt, MsgT] at *)
  all_goals (try simp only [eq4, ne4, eq3, ne3, eq2, ne2, Prod.eta, List.length_cons, List.length_nil, List.length_append, Nat.zero_add] at *)
  all_goals (try simp (disch := omega) only [wrap64] at *)
  all_goals
    refine Leaf.mk (ret1 (show _ = wide (kind, key, txn, ts, gone, val) from ?_))
    unfold wide
    first
    | (rw [eq_comm, decide_eq_false_iff_not]; omega)
    | (rw [eq_comm, decide_eq_true_eq]; omega)
    | (congr 1; simp only [eq_iff_iff]; omega)
    | (rw [Bool.eq_iff_iff]; simp only [decide_eq_true_eq, beq_iff_eq]; omega)
theorem pWideR : PSound Try.prog 40 sWideR := by
  refine psound (T := tab) (S := (spOf [])) (keep := k40) (by kernel_rfl) tabOk spNil (by kernel_rfl) Try.func40 (by kernel_rfl) (by decide) fun xs hg hp => ?_
  obtain ⟨⟨kind, key, txn, ts, gone, val⟩, ⟨⟩⟩ := xs
  obtain ⟨⟨hk, -⟩, -⟩ := hg
  change List UInt8 at key
  change List UInt8 at val
  change Int at kind txn ts
  change Bool at gone
  have hk := bdu8 hk
  show vfun tab _ k40 Try.f40 [.agg [.i .u8 kind, .s key, .i .i64 txn, .i .i64 ts, .b gone, .s val]] [] _
  refine Ev.out ?_
  repeat' (first | ((with_reducible refine Ev.mk ?_); conv => whnf) | (with_reducible refine And.intro ?_ ?_) | (intro h))
  all_goals (try simp only [decide_eq_true_eq, decide_eq_false_iff_not, beq_iff_eq, bne_iff_ne, beq_eq_false_iff_ne, bne_eq_false_iff_eq, Int.toNat_natCast, ge_iff_le, gt_iff_lt, Bool.not_eq_true', Bool.not_eq_false', Int.not_lt, Int.not_le, ne_eq] at *)
  all_goals (try dsimp only [Ty.den, Ty.dflt, MsgT] at *)
  all_goals (try simp only [eq4, ne4, eq3, ne3, eq2, ne2, Prod.eta, List.length_cons, List.length_nil, List.length_append, Nat.zero_add] at *)
  all_goals (try simp (disch := omega) only [wrap64] at *)
  all_goals
    refine Leaf.mk (ret1 (show _ = wide (kind, key, txn, ts, gone, val) from ?_))
    unfold wide
    first
    | (rw [eq_comm, decide_eq_false_iff_not]; omega)
    | (rw [eq_comm, decide_eq_true_eq]; omega)
    | (congr 1; simp only [eq_iff_iff]; omega)
    | (rw [Bool.eq_iff_iff]; simp only [decide_eq_true_eq, beq_iff_eq]; omega)
end Go.Proofs.Ytjifalccioebnaa

set_option linter.unusedVariables false
set_option linter.unusedSimpArgs false
set_option maxRecDepth 8000
set_option maxHeartbeats 4000000
namespace Go.Proofs.Ytjifalccioebnaa
open Go.Eng
abbrev MsT : Ty := .slice MsgT
end Go.Proofs.Ytjifalccioebnaa

set_option linter.unusedVariables false
set_option linter.unusedSimpArgs false
set_option maxRecDepth 8000
set_option maxHeartbeats 4000000
namespace Go.Proofs.Ytjifalccioebnaa
open Go.Eng
abbrev StrsT : Ty := .slice .str
theorem all_at' {α : Type} {p : α → Bool} {xs : List α} {i : Nat} (d : α) (h : i < xs.length) : (xs.take (i + 1)).all p = ((xs.take i).all p && p (xs.getD i d)) := by
  rw [take_at d h, List.all_append]; simp
theorem all_no' {α : Type} {p : α → Bool} {xs : List α} {i : Nat} (d : α) (h : i < xs.length) (hn : p (xs.getD i d) = false) : xs.all p = false := by
  have : ¬ xs.all p = true := fun hc => by
    rw [List.all_eq_true] at hc
    have := hc _ (getD_mem d h)
    rw [hn] at this; exact absurd this (by simp)
  simpa using this
def lightM1 (m : Msg) : Bool := decide (m.2.1.length ≤ 100 ∧ m.2.2.2.2.2.length ≤ 100)
def lightM (l : List Msg) (most : Int) : Bool := decide ((l.length : Int) ≤ most) && l.all lightM1
def sLightM : PSpec := ⟨[.d MsT, .d (.int .i64)], [⟨false, [.d .bool]⟩], fun _ => True, fun x => ((lightM x.1 x.2.1, ()), ())⟩
theorem fLightM : FnOk Try.prog 5 := ⟨_, Try.func5, by decide, rfl⟩
theorem pLightM : PSound Try.prog 5 sLightM := by
  refine psound (T := tab) (S := (spOf [])) (keep := k5) (by kernel_rfl) tabOk spNil (by kernel_rfl) Try.func5 (by kernel_rfl) (by decide) fun xs hg hp => ?_
  obtain ⟨xs, most, ⟨⟩⟩ := xs
  obtain ⟨⟨hl, hx⟩, -⟩ := hg
  change List Msg at xs
  change Int at most
  change xs.length ≤ _ at hl
  have hl := len63 hl
  clear hp
  show vfun tab _ k5 Try.f5 [.sl MsgT xs, .i .i64 most] [] _
  refine Ev.out ?_
  repeat' (first | ((with_reducible refine Ev.mk ?_); conv => whnf) | (with_reducible refine And.intro ?_ ?_) | (intro h))
  all_goals (try simp only [decide_eq_true_eq, decide_eq_false_iff_not, beq_iff_eq, bne_iff_ne, beq_eq_false_iff_ne, bne_eq_false_iff_eq, Int.toNat_natCast, ge_iff_le, gt_iff_lt, Bool.not_eq_true', Bool.not_eq_false', Int.not_lt, Int.not_le, ne_eq] at *)
  all_goals (try dsimp only [Ty.den, Ty.dflt, MsgT] at *)
  all_goals (try simp only [eq4, ne4, eq3, ne3, eq2, ne2, Prod.eta, List.length_cons, List.length_nil, List.length_append, Nat.zero_add] at *)
  all_goals (try simp (disch := omega) only [wrap64] at *)
  all_goals try first | exact leafDraw (by kernel_rfl) | exact Leaf.mk trivial | (refine Leaf.mk ?_; omega) | (refine Leaf.mk ?_; unfold maxLen; omega)
  · refine Leaf.mk (ret1 (show false = lightM xs most from ?_))
    rw [lightM, decide_eq_false (by omega), Bool.false_and]
  refine LoopVC.on (fun i : Nat => [(5, .i .i64 i)]) (fun _ => []) (fun i => i ≤ xs.length ∧ (xs.take i).all lightM1 = true) (fun i => xs.length - i) 0 rfl ⟨by omega, rfl⟩ ?_
  intro i ⟨hi, he⟩
  repeat' (first | ((with_reducible refine Ev.mk ?_); conv => whnf) | (with_reducible refine And.intro ?_ ?_) | (intro h))
  all_goals (try simp only [decide_eq_true_eq, decide_eq_false_iff_not, beq_iff_eq, bne_iff_ne, beq_eq_false_iff_ne, bne_eq_false_iff_eq, Int.toNat_natCast, ge_iff_le, gt_iff_lt, Bool.not_eq_true', Bool.not_eq_false', Int.not_lt, Int.not_le, ne_eq] at *)
  all_goals (try dsimp only [Ty.den, Ty.dflt, MsgT] at *)
  all_goals (try simp only [eq4, ne4, eq3, ne3, eq2, ne2, Prod.eta, List.length_cons, List.length_nil, List.length_append, Nat.zero_add] at *)
  all_goals (try simp (disch := omega) only [wrap64] at *)
  all_goals try first | exact leafDraw (by kernel_rfl) | exact Leaf.mk trivial | (refine Leaf.mk ?_; omega) | (refine Leaf.mk ?_; unfold maxLen; omega)
  all_goals first
    | (refine Leaf.mk (ret1 (show false = lightM xs most from ?_))
       rw [lightM, all_no' msg0 (by omega) (show lightM1 (xs.getD i msg0) = false from decide_eq_false (fun hc => by have h1 := hc.1; have h2 := hc.2; dsimp only [msg0] at *; omega)), Bool.and_false]
       done)
    | (refine Leaf.mk ⟨i + 1, rfl, ⟨by omega, ?_⟩, by omega⟩
       rw [all_at' msg0 (by omega), he, Bool.true_and]; exact decide_eq_true ⟨by dsimp only [msg0] at *; omega, by dsimp only [msg0] at *; omega⟩)
    | (refine Leaf.mk (ret1 (show true = lightM xs most from ?_))
       rw [List.take_of_length_le (by omega)] at he
       rw [lightM, he, Bool.and_true, decide_eq_true (by omega)]
       done)
set_option synthInstance.maxHeartbeats 400000
instance decM1 : DecidableEq (Bool × List UInt8) := inferInstance
instance decM2 : DecidableEq (Int × Bool × List UInt8) := inferInstance
instance decM3 : DecidableEq (Int × Int × Bool × List UInt8) := inferInstance
instance decM4 : DecidableEq (List UInt8 × Int × Int × Bool × List UInt8) := inferInstance
instance decMsg : DecidableEq Msg := inferInstanceAs (DecidableEq (Int × List UInt8 × Int × Int × Bool × List UInt8))
def sameM (a b : List Msg) : Bool := decide (a = b)
def sSameM : PSpec := ⟨[.d MsT, .d MsT], [⟨false, [.d .bool]⟩], fun _ => True, fun x => ((sameM x.1 x.2.1, ()), ())⟩
def sameT (a b : List (List UInt8)) : Bool := decide (a = b)
def sSameT : PSpec := ⟨[.d StrsT, .d StrsT], [⟨false, [.d .bool]⟩], fun _ => True, fun x => ((sameT x.1 x.2.1, ()), ())⟩
theorem fSameT : FnOk Try.prog 61 := ⟨_, Try.func61, by decide, rfl⟩
theorem pSameT : PSound Try.prog 61 sSameT := by
  refine psound (T := tab) (S := (spOf [])) (keep := k61) (by kernel_rfl) tabOk spNil (by kernel_rfl) Try.func61 (by kernel_rfl) (by decide) fun xs hg hp => ?_
  obtain ⟨xs, ys, ⟨⟩⟩ := xs
  obtain ⟨⟨hl, -⟩, ⟨hl2, -⟩, -⟩ := hg
  have hl := len63 hl
  have hl2 := len63 hl2
  change List (List UInt8) at xs ys
  change xs.length ≤ _ at hl
  change ys.length ≤ _ at hl2
  clear hp
  show vfun tab _ k61 Try.f61 [.sl .str xs, .sl .str ys] [] _
  refine Ev.out ?_
  repeat' (first | ((with_reducible refine Ev.mk ?_); conv => whnf) | (with_reducible refine And.intro ?_ ?_) | (intro h))
  all_goals (try simp only [decide_eq_true_eq, decide_eq_false_iff_not, beq_iff_eq, bne_iff_ne, beq_eq_false_iff_ne, bne_eq_false_iff_eq, Int.toNat_natCast, ge_iff_le, gt_iff_lt, Bool.not_eq_true', Bool.not_eq_false', Int.not_lt, Int.not_le, ne_eq] at *)
  all_goals (try dsimp only [Ty.den, Ty.dflt, StrsT] at *)
  all_goals (try simp only [eq4, ne4, eq3, ne3, eq2, ne2, Prod.eta, List.length_cons, List.length_nil, List.length_append, Nat.zero_add] at *)
  all_goals (try simp (disch := omega) only [wrap64] at *)
  · refine Leaf.mk (ret1 (show false = sameT xs ys from ?_))
    rw [sameT, eq_comm, decide_eq_false_iff_not]; intro hc; subst hc; omega
  refine LoopVC.on (fun i : Nat => [(5, .i .i64 i)]) (fun _ => []) (fun i => i ≤ xs.length ∧ xs.take i = ys.take i) (fun i => xs.length - i) 0 rfl ⟨by omega, by simp⟩ ?_
  intro i ⟨hi, he⟩
  repeat' (first | ((with_reducible refine Ev.mk ?_); conv => whnf) | (with_reducible refine And.intro ?_ ?_) | (intro h))
  all_goals (try simp only [decide_eq_true_eq, decide_eq_false_iff_not, beq_iff_eq, bne_iff_ne, beq_eq_false_iff_ne, bne_eq_false_iff_eq, Int.toNat_natCast, ge_iff_le, gt_iff_lt, Bool.not_eq_true', Bool.not_eq_false', Int.not_lt, Int.not_le, ne_eq] at *)
  all_goals (try dsimp only [Ty.den, Ty.dflt, StrsT] at *)
  all_goals (try simp only [eq4, ne4, eq3, ne3, eq2, ne2, Prod.eta, List.length_cons, List.length_nil, List.length_append, Nat.zero_add] at *)
  all_goals (try simp (disch := omega) only [wrap64] at *)
  all_goals try first | exact leafDraw (by kernel_rfl) | exact Leaf.mk trivial | (refine Leaf.mk ?_; omega) | (refine Leaf.mk ?_; unfold maxLen; omega)
  all_goals first
    | exact Leaf.mk (ret1 (show false = decide (xs = ys) by rw [eq_comm, decide_eq_false_iff_not]; exact same_not [] h))
    | exact Leaf.mk ⟨i + 1, rfl, ⟨by omega, same_step [] (by omega) he (by omega) h⟩, by omega⟩
    | exact Leaf.mk (ret1 (show true = decide (xs = ys) by rw [eq_comm, decide_eq_true_eq]; exact same_end (by omega) he (by omega)))
theorem fSameM : FnOk Try.prog 12 := ⟨_, Try.func12, by decide, rfl⟩
theorem pSameM : PSound Try.prog 12 sSameM := by
  refine psound (T := tab) (S := (spOf [])) (keep := k12) (by kernel_rfl) tabOk spNil (by kernel_rfl) Try.func12 (by kernel_rfl) (by decide) fun xs hg hp => ?_
  obtain ⟨xs, ys, ⟨⟩⟩ := xs
  obtain ⟨⟨hl, -⟩, ⟨hl2, -⟩, -⟩ := hg
  have hl := len63 hl
  have hl2 := len63 hl2
  change List Msg at xs ys
  change xs.length ≤ _ at hl
  change ys.length ≤ _ at hl2
  clear hp
  show vfun tab _ k12 Try.f12 [.sl MsgT xs, .sl MsgT ys] [] _
  refine Ev.out ?_
  repeat' (first | ((with_reducible refine Ev.mk ?_); conv => whnf) | (with_reducible refine And.intro ?_ ?_) | (intro h))
  all_goals (try simp only [decide_eq_true_eq, decide_eq_false_iff_not, beq_iff_eq, bne_iff_ne, beq_eq_false_iff_ne, bne_eq_false_iff_eq, Int.toNat_natCast, ge_iff_le, gt_iff_lt, Bool.not_eq_true', Bool.not_eq_false', Int.not_lt, Int.not_le, ne_eq] at *)
  all_goals (try dsimp only [Ty.den, Ty.dflt, MsgT] at *)
  all_goals (try simp only [eq4, ne4, eq3, ne3, eq2, ne2, Prod.eta, List.length_cons, List.length_nil, List.length_append, Nat.zero_add] at *)
  all_goals (try simp (disch := omega) only [wrap64] at *)
  · refine Leaf.mk (ret1 (show false = sameM xs ys from ?_))
    rw [sameM, eq_comm, decide_eq_false_iff_not]; intro hc; subst hc; omega
  refine LoopVC.on (fun i : Nat => [(5, .i .i64 i)]) (fun _ => []) (fun i => i ≤ xs.length ∧ xs.take i = ys.take i) (fun i => xs.length - i) 0 rfl ⟨by omega, by simp⟩ ?_
  intro i ⟨hi, he⟩
  repeat' (first | ((with_reducible refine Ev.mk ?_); conv => whnf) | (with_reducible refine And.intro ?_ ?_) | (intro h))
  all_goals (try simp only [decide_eq_true_eq, decide_eq_false_iff_not, beq_iff_eq, bne_iff_ne, beq_eq_false_iff_ne, bne_eq_false_iff_eq, Int.toNat_natCast, ge_iff_le, gt_iff_lt, Bool.not_eq_true', Bool.not_eq_false', Int.not_lt, Int.not_le, ne_eq] at *)
  all_goals (try dsimp only [Ty.den, Ty.dflt, MsgT] at *)
  all_goals (try simp only [eq4, ne4, eq3, ne3, eq2, ne2, Prod.eta, List.length_cons, List.length_nil, List.length_append, Nat.zero_add] at *)
  all_goals (try simp (disch := omega) only [wrap64] at *)
  all_goals try first | exact leafDraw (by kernel_rfl) | exact Leaf.mk trivial | (refine Leaf.mk ?_; omega) | (refine Leaf.mk ?_; unfold maxLen; omega)
  all_goals try rw [eq6] at h
  all_goals try rw [ne6] at h
  all_goals first
    | exact Leaf.mk (ret1 (show false = decide (xs = ys) by rw [eq_comm, decide_eq_false_iff_not]; exact same_not msg0 h))
    | exact Leaf.mk ⟨i + 1, rfl, ⟨by omega, same_step msg0 (by omega) he (by omega) h⟩, by omega⟩
    | exact Leaf.mk (ret1 (show true = decide (xs = ys) by rw [eq_comm, decide_eq_true_eq]; exact same_end (by omega) he (by omega)))
end Go.Proofs.Ytjifalccioebnaa

set_option linter.unusedVariables false
set_option linter.unusedSimpArgs false
set_option maxRecDepth 8000
set_option maxHeartbeats 4000000
namespace Go.Proofs.Ytjifalccioebnaa
open Go.Eng
def gvB (g : Bool) (v : List UInt8) : List Int := (if g = true then 1 else 0) :: putText v
def putM (m : Msg) : List Int := m.1 :: ((if m.1 = 0 then putText m.2.1 else []) ++ ((if m.1 = 3 then [] else putSmall m.2.2.1) ++ ((if m.1 = 1 ∨ m.1 = 3 then putSmall m.2.2.2.1 else []) ++ (if m.1 = 0 then gvB m.2.2.2.2.1 m.2.2.2.2.2 else []))))
structure MsgOk (m : Msg) : Prop where
  kind : m.1 ≤ 3
  form : mForm m
  txn : 0 ≤ m.2.2.1 ∧ m.2.2.1 ≤ 1099511627776
  ts : 0 ≤ m.2.2.2.1 ∧ m.2.2.2.1 ≤ 1099511627776
  key : m.2.1.length ≤ 16
  val : m.2.2.2.2.2.length ≤ 24
theorem mcheck_ok {m : Msg} (h : mcheck m = 0) : MsgOk m := by
  unfold mcheck at h
  split at h
  · exact absurd h (by decide)
  split at h
  · exact absurd h (by decide)
  split at h
  · exact absurd h (by decide)
  split at h
  · exact absurd h (by decide)
  rename_i h1 h2 h3 h4
  have h5 : inB m.2.2.1 = true ∧ inB m.2.2.2.1 = true := Classical.byContradiction fun hc => h3 (.inl hc)
  exact ⟨by omega, Classical.byContradiction h2, of_decide_eq_true h5.1, of_decide_eq_true h5.2, by omega, by omega⟩
theorem gvB_len (g : Bool) (v : List UInt8) : (gvB g v).length ≤ 2 * v.length + 3 := by
  have := putText_len v
  rw [gvB, List.length_cons]; omega
theorem putM_len {m : Msg} (h : mcheck m = 0) : (putM m).length ≤ 104 := by
  have ok := mcheck_ok h
  have h1 := putText_len m.2.1
  have h2 := putSmall_len m.2.2.1
  have h3 := putSmall_len m.2.2.2.1
  have h4 := gvB_len m.2.2.2.2.1 m.2.2.2.2.2
  have := ok.key
  have := ok.val
  unfold putM
  simp only [List.length_cons, List.length_append]
  repeat' split
  all_goals (try simp only [List.length_nil]); omega
theorem isB_gv (g : Bool) (v : List UInt8) : isB (gvB g v) := by
  intro x hx
  rcases List.mem_cons.1 hx with h | h
  · rw [h]; split <;> omega
  · exact isB_put _ x h
theorem isB_M {m : Msg} (h0 : 0 ≤ m.1) (h : m.1 ≤ 255) : isB (putM m) := by
  intro x hx
  rcases List.mem_cons.1 hx with hx | hx
  · rw [hx]; omega
  · have hn : isB ([] : List Int) := fun x hx => by simp at hx
    refine (isB_append ?_ (isB_append ?_ (isB_append ?_ ?_))) x hx
    · split; exact isB_put _; exact hn
    · split; exact hn; exact isB_small _
    · split; exact isB_small _; exact hn
    · split; exact isB_gv _ _; exact hn
def putR12 (m : Msg) : List Int × Int := if mcheck m = 0 then (putM m, 0) else ([], mcheck m)
def sMPut : PSpec := ⟨[.d MsgT], [⟨false, [.o 5 (.int .u8)]⟩, ⟨false, [.d (.int .i64)]⟩], fun _ => True, fun x => (((putR12 x.1).1, ()), ((putR12 x.1).2, ()), ())⟩
def sMFlag : PSpec := sFlag
theorem fMFlag : FnOk Try.prog 89 := ⟨_, Try.func89, by decide, rfl⟩
theorem pMFlag : PSound Try.prog 89 sMFlag := by
  refine psound (T := tab) (S := (spOf [])) (keep := k89) (by kernel_rfl) tabOk spNil (by kernel_rfl) Try.func89 (by kernel_rfl) (by decide) fun xs hg hp => ?_
  obtain ⟨g, ⟨⟩⟩ := xs
  change Bool at g
  show vfun tab _ k89 Try.f89 [.b g] [] _
  refine Ev.out ?_
  repeat' (first | ((with_reducible refine Ev.mk ?_); conv => whnf) | (with_reducible refine And.intro ?_ ?_) | (intro h))
  · exact Leaf.mk (ret1 (show (1 : Int) = if g = true then 1 else 0 by rw [if_pos h]))
  · exact Leaf.mk (ret1 (show (0 : Int) = if g = true then 1 else 0 by rw [if_neg (by rw [h]; simp)]))
theorem fMPut : FnOk Try.prog 74 := ⟨_, Try.func74, by decide, rfl⟩
theorem pMPut : PSound Try.prog 74 sMPut := by
  refine psound (T := tab) (S := (spOf [(37, sMCheck.spec (lsOf [])), (62, sOf.spec (lsOf [])), (72, sPutText.spec (lsOf [])), (71, sPutSmall.spec (lsOf [])), (89, sMFlag.spec (lsOf []))])) (keep := k74) (by kernel_rfl) tabOk (spCons (pOk pMCheck fMCheck (by decide) lsNil) (spCons (pOk pOf fOf (by decide) lsNil) (spCons (pOk pPutText fPutText (by decide) lsNil) (spCons (pOk pPutSmall fPutSmall (by decide) lsNil) (spCons (pOk pMFlag fMFlag (by decide) lsNil) spNil))))) (by kernel_rfl) Try.func74 (by kernel_rfl) (by decide) fun xs hg hp => ?_
  obtain ⟨⟨kind, key, txn, ts, gone, val⟩, ⟨⟩⟩ := xs
  obtain ⟨⟨hk, -⟩, -⟩ := hg
  change List UInt8 at key
  change List UInt8 at val
  change Int at kind txn ts
  change Bool at gone
  have hk := bdu8 hk
  clear hp
  show vfun tab _ k74 Try.f74 [.agg [.i .u8 kind, .s key, .i .i64 txn, .i .i64 ts, .b gone, .s val]] [] _
  refine Ev.out ?_
  repeat' (first | ((with_reducible refine Ev.mk ?_); conv => whnf) | (with_reducible refine And.intro ?_ ?_) | (intro h))
  all_goals (try simp only [decide_eq_true_eq, decide_eq_false_iff_not, beq_iff_eq, bne_iff_ne, beq_eq_false_iff_ne, bne_eq_false_iff_eq, Int.toNat_natCast, ge_iff_le, gt_iff_lt, Bool.not_eq_true', Bool.not_eq_false', Int.not_lt, Int.not_le, ne_eq] at *)
  all_goals (try dsimp only [Ty.den, Ty.dflt, MsgT, sMCheck, sOf, ofK, sPutText, sPutSmall, sMFlag, sFlag] at *)
  all_goals (try simp only [eq4, ne4, eq3, ne3, eq2, ne2, Prod.eta, List.length_cons, List.length_nil, List.length_append, Nat.zero_add] at *)
  all_goals (try simp (disch := omega) only [wrap64] at *)
  all_goals try first | exact leafDraw (by kernel_rfl) | exact Leaf.mk trivial | (refine Leaf.mk ?_; omega) | (refine Leaf.mk ?_; unfold maxLen; omega)
  all_goals try simp only [decide_eq_true_eq, decide_eq_false_iff_not] at *
  all_goals try exact Leaf.mk (retB (u := ([], mcheck (kind, key, txn, ts, gone, val))) (if_neg h).symm)
  all_goals
    have ok := mcheck_ok ‹mcheck (kind, key, txn, ts, gone, val) = 0›
    have hk1 := ok.key
    have hv1 := ok.val
    have hk2 := ok.kind
    have ht1 := ok.txn
    have ht2 := ok.ts
    dsimp only at hk1 hv1 hk2 ht1 ht2
    try rw [wrapu ht1] at *
    try rw [wrapu ht2] at *
    have hl1 := putText_len key
    have hl2 := putSmall_len txn
    have hl3 := putSmall_len ts
    have hl4 := putText_len val
  all_goals try first
    | (refine Leaf.mk ?_; omega)
    | (refine Leaf.mk ?_; unfold maxLen; omega)
    | exact Leaf.mk (show key.length ≤ 100000 by omega)
    | exact Leaf.mk (show val.length ≤ 100000 by omega)
  all_goals
    refine Leaf.mk (retB (u := (_, 0)) (v := putR12 (kind, key, txn, ts, gone, val)) ?_)
    rw [putR12, if_pos ‹mcheck (kind, key, txn, ts, gone, val) = 0›]
    rcases (by omega : kind = 0 ∨ kind = 1 ∨ kind = 2 ∨ kind = 3) with rfl | rfl | rfl | rfl
  all_goals first
    | (exfalso; omega)
    | (simp [putM, gvB, *]; done)
    | (simp_all [putM, gvB]; done)
def sMSize : PSpec := ⟨[.d MsgT], [⟨false, [.d (.int .i64)]⟩], fun _ => True, fun x => (((List.length (putR12 x.1).1 : Nat), ()), ())⟩
theorem fMSize : FnOk Try.prog 52 := ⟨_, Try.func52, by decide, rfl⟩
theorem pMSize : PSound Try.prog 52 sMSize := by
  refine psound (T := tab) (S := (spOf [(74, sMPut.spec (lsOf []))])) (keep := k52) (by kernel_rfl) tabOk (spCons (pOk pMPut fMPut (by decide) lsNil) spNil) (by kernel_rfl) Try.func52 (by kernel_rfl) (by decide) fun xs hg hp => ?_
  obtain ⟨⟨kind, key, txn, ts, gone, val⟩, ⟨⟩⟩ := xs
  obtain ⟨⟨hk, -⟩, -⟩ := hg
  change List UInt8 at key
  change List UInt8 at val
  change Int at kind txn ts
  change Bool at gone
  have hk := bdu8 hk
  clear hp
  show vfun tab _ k52 Try.f52 [.agg [.i .u8 kind, .s key, .i .i64 txn, .i .i64 ts, .b gone, .s val]] [] _
  refine Ev.out ?_
  repeat' (first | ((with_reducible refine Ev.mk ?_); conv => whnf) | (with_reducible refine And.intro ?_ ?_) | (intro h))
  all_goals first | exact Leaf.mk trivial | exact Leaf.mk rfl
end Go.Proofs.Ytjifalccioebnaa

set_option linter.unusedVariables false
set_option linter.unusedSimpArgs false
set_option maxRecDepth 8000
set_option maxHeartbeats 4000000
namespace Go.Proofs.Ytjifalccioebnaa
open Go.Eng
abbrev TsT : Ty := .slice .str
abbrev BfT : Ty := .slice (.slice MsgT)
abbrev InT : Ty := .pair TsT (.pair (.slice (.int .i64)) BfT)
abbrev Inn : Type := List (List UInt8) × List Int × List (List Msg)
abbrev inn0 : Inn := ([], [], [])
def wholeI (n : Inn) : Bool := decide (n.2.2.length = n.2.1.length ∧ n.1.length + 1 = n.2.1.length)
theorem wholeI_iff {n : Inn} : wholeI n = true ↔ n.2.2.length = n.2.1.length ∧ n.1.length + 1 = n.2.1.length := decide_eq_true_iff
def sWhole : PSpec := ⟨[.d InT], [⟨false, [.d .bool]⟩], fun _ => True, fun x => ((wholeI x.1, ()), ())⟩
def sWholeR : PSpec := sWhole
theorem fWhole : FnOk Try.prog 34 := ⟨_, Try.func34, by decide, rfl⟩
theorem pWhole : PSound Try.prog 34 sWhole := by
  refine psound (T := tab) (S := (spOf [])) (keep := k34) (by kernel_rfl) tabOk spNil (by kernel_rfl) Try.func34 (by kernel_rfl) (by decide) fun xs hg hp => ?_
  obtain ⟨⟨ps, ks, bs⟩, ⟨⟩⟩ := xs
  obtain ⟨⟨⟨hlp, -⟩, ⟨hlk, -⟩, ⟨hlb, -⟩⟩, -⟩ := hg
  change List (List UInt8) at ps
  change List Int at ks
  change List (List Msg) at bs
  have hlp := len63 hlp
  have hlk := len63 hlk
  have hlb := len63 hlb
  clear hp
  show vfun tab _ k34 Try.f34 [.agg [.sl .str ps, .sl (.int .i64) ks, .sl (.slice MsgT) bs]] [] _
  refine Ev.out ?_
  repeat' (first | ((with_reducible refine Ev.mk ?_); conv => whnf) | (with_reducible refine And.intro ?_ ?_) | (intro h))
  all_goals (try simp only [decide_eq_true_eq, decide_eq_false_iff_not, beq_iff_eq, bne_iff_ne, beq_eq_false_iff_ne, bne_eq_false_iff_eq, Int.toNat_natCast, ge_iff_le, gt_iff_lt, Bool.not_eq_true', Bool.not_eq_false', Int.not_lt, Int.not_le, ne_eq] at *)
  all_goals (try dsimp only [Ty.den, Ty.dflt, InT] at *)
  all_goals (try simp only [eq4, ne4, eq3, ne3, eq2, ne2, Prod.eta, List.length_cons, List.length_nil, List.length_append, Nat.zero_add] at *)
  all_goals (try simp (disch := omega) only [wrap64] at *)
  all_goals try first | exact leafDraw (by kernel_rfl) | exact Leaf.mk trivial | (refine Leaf.mk ?_; omega) | (refine Leaf.mk ?_; unfold maxLen; omega)
  all_goals first
    | (refine Leaf.mk (ret1 (show _ = wholeI (ps, ks, bs) from ?_)); simp only [wholeI]; first | rfl | (apply Bool.eq_iff_iff.2; simp; omega))
    | skip
theorem fWholeR : FnOk Try.prog 35 := ⟨_, Try.func35, by decide, rfl⟩
theorem pWholeR : PSound Try.prog 35 sWholeR := by
  refine psound (T := tab) (S := (spOf [])) (keep := k35) (by kernel_rfl) tabOk spNil (by kernel_rfl) Try.func35 (by kernel_rfl) (by decide) fun xs hg hp => ?_
  obtain ⟨⟨ps, ks, bs⟩, ⟨⟩⟩ := xs
  obtain ⟨⟨⟨hlp, -⟩, ⟨hlk, -⟩, ⟨hlb, -⟩⟩, -⟩ := hg
  change List (List UInt8) at ps
  change List Int at ks
  change List (List Msg) at bs
  have hlp := len63 hlp
  have hlk := len63 hlk
  have hlb := len63 hlb
  clear hp
  show vfun tab _ k35 Try.f35 [.agg [.sl .str ps, .sl (.int .i64) ks, .sl (.slice MsgT) bs]] [] _
  refine Ev.out ?_
  repeat' (first | ((with_reducible refine Ev.mk ?_); conv => whnf) | (with_reducible refine And.intro ?_ ?_) | (intro h))
  all_goals (try simp only [decide_eq_true_eq, decide_eq_false_iff_not, beq_iff_eq, bne_iff_ne, beq_eq_false_iff_ne, bne_eq_false_iff_eq, Int.toNat_natCast, ge_iff_le, gt_iff_lt, Bool.not_eq_true', Bool.not_eq_false', Int.not_lt, Int.not_le, ne_eq] at *)
  all_goals (try dsimp only [Ty.den, Ty.dflt, InT] at *)
  all_goals (try simp only [eq4, ne4, eq3, ne3, eq2, ne2, Prod.eta, List.length_cons, List.length_nil, List.length_append, Nat.zero_add] at *)
  all_goals (try simp (disch := omega) only [wrap64] at *)
  all_goals try first | exact leafDraw (by kernel_rfl) | exact Leaf.mk trivial | (refine Leaf.mk ?_; omega) | (refine Leaf.mk ?_; unfold maxLen; omega)
  all_goals first
    | (refine Leaf.mk (ret1 (show _ = wholeI (ps, ks, bs) from ?_)); simp only [wholeI]; first | rfl | (apply Bool.eq_iff_iff.2; simp; omega))
    | skip
def atP (k p : List UInt8) : Bool := sless p k || p == k
def routeI (ps : List (List UInt8)) (k : List UInt8) : Nat := (ps.filter (atP k)).length
theorem routeI_at {ps : List (List UInt8)} {i : Nat} {k : List UInt8} (h : i < ps.length) : routeI (ps.take (i + 1)) k = routeI (ps.take i) k + (if atP k (ps.getD i []) = true then 1 else 0) := by
  rw [routeI, filter_at [] h, List.length_append, routeI]
  split <;> rfl
theorem routeI_le (ps : List (List UInt8)) (k : List UInt8) : routeI ps k ≤ ps.length := List.length_filter_le _ _
def sRoute : PSpec := ⟨[.d InT, .d .str], [⟨false, [.d (.int .i64)]⟩], fun _ => True, fun x => (((routeI x.1.1 x.2.1 : Nat), ()), ())⟩
def sRouteR : PSpec := sRoute
theorem fRoute : FnOk Try.prog 28 := ⟨_, Try.func28, by decide, rfl⟩
theorem pRoute : PSound Try.prog 28 sRoute := by
  refine psound (T := tab) (S := (spOf [])) (keep := k28) (by kernel_rfl) tabOk spNil (by kernel_rfl) Try.func28 (by kernel_rfl) (by decide) fun xs hg hp => ?_
  obtain ⟨⟨ps, ks, bs⟩, key, ⟨⟩⟩ := xs
  obtain ⟨⟨⟨hlp, -⟩, ⟨hlk, -⟩, ⟨hlb, -⟩⟩, -⟩ := hg
  change List (List UInt8) at ps
  change List Int at ks
  change List (List Msg) at bs
  change List UInt8 at key
  have hlp := len63 hlp
  clear hlk hlb hp
  show vfun tab _ k28 Try.f28 [.agg [.sl .str ps, .sl (.int .i64) ks, .sl (.slice MsgT) bs], .s key] [] _
  refine Ev.out ?_
  repeat' (first | ((with_reducible refine Ev.mk ?_); conv => whnf) | (with_reducible refine And.intro ?_ ?_) | (intro h))
  refine LoopVC.on (fun i : Nat => [(5, .i .i64 (routeI (ps.take i) key : Nat)), (11, .i .i64 i)]) (fun _ => []) (fun i => i ≤ ps.length) (fun i => ps.length - i) 0 rfl (by omega) ?_
  intro i hi
  have hat := fun h => routeI_at (ps := ps) (i := i) (k := key) h
  have hle := routeI_le (ps.take i) key
  rw [List.length_take] at hle
  repeat' (first | ((with_reducible refine Ev.mk ?_); conv => whnf) | (with_reducible refine And.intro ?_ ?_) | (intro h))
  all_goals (try simp only [decide_eq_true_eq, decide_eq_false_iff_not, beq_iff_eq, bne_iff_ne, beq_eq_false_iff_ne, bne_eq_false_iff_eq, Int.toNat_natCast, ge_iff_le, gt_iff_lt, Bool.not_eq_true', Bool.not_eq_false', Int.not_lt, Int.not_le, ne_eq] at *)
  all_goals (try dsimp only [Ty.den, Ty.dflt, InT] at *)
  all_goals (try simp only [eq4, ne4, eq3, ne3, eq2, ne2, Prod.eta, List.length_cons, List.length_nil, List.length_append, Nat.zero_add] at *)
  all_goals (try simp (disch := omega) only [wrap64] at *)
  all_goals try first | exact leafDraw (by kernel_rfl) | exact Leaf.mk trivial | (refine Leaf.mk ?_; omega) | (refine Leaf.mk ?_; unfold maxLen; omega)
  · refine Leaf.mk (Exists.intro (i + 1) ⟨?_, by omega, by omega⟩)
    rw [hat (by omega), if_pos (show atP key (ps.getD i []) = true from ‹_›)]; rfl
  · refine Leaf.mk (Exists.intro (i + 1) ⟨?_, by omega, by omega⟩)
    rw [hat (by omega), if_neg (by rw [show atP key (ps.getD i []) = false from ‹_›]; simp)]; rfl
  · refine Leaf.mk (ret1 (show ((routeI (ps.take i) key : Nat) : Int) = (routeI ps key : Nat) from ?_))
    rw [List.take_of_length_le (by omega)]
theorem pRouteR : PSound Try.prog 41 sRouteR := by
  refine psound (T := tab) (S := (spOf [])) (keep := k41) (by kernel_rfl) tabOk spNil (by kernel_rfl) Try.func41 (by kernel_rfl) (by decide) fun xs hg hp => ?_
  obtain ⟨⟨ps, ks, bs⟩, key, ⟨⟩⟩ := xs
  obtain ⟨⟨⟨hlp, -⟩, ⟨hlk, -⟩, ⟨hlb, -⟩⟩, -⟩ := hg
  change List (List UInt8) at ps
  change List Int at ks
  change List (List Msg) at bs
  change List UInt8 at key
  have hlp := len63 hlp
  clear hlk hlb hp
  show vfun tab _ k41 Try.f41 [.agg [.sl .str ps, .sl (.int .i64) ks, .sl (.slice MsgT) bs], .s key] [] _
  refine Ev.out ?_
  repeat' (first | ((with_reducible refine Ev.mk ?_); conv => whnf) | (with_reducible refine And.intro ?_ ?_) | (intro h))
  refine LoopVC.on (fun i : Nat => [(5, .i .i64 (routeI (ps.take i) key : Nat)), (6, .i .i64 i)]) (fun _ => []) (fun i => i ≤ ps.length) (fun i => ps.length - i) 0 rfl (by omega) ?_
  intro i hi
  have hat := fun h => routeI_at (ps := ps) (i := i) (k := key) h
  have hle := routeI_le (ps.take i) key
  rw [List.length_take] at hle
  repeat' (first | ((with_reducible refine Ev.mk ?_); conv => whnf) | (with_reducible refine And.intro ?_ ?_) | (intro h))
  all_goals (try simp only [decide_eq_true_eq, decide_eq_false_iff_not, beq_iff_eq, bne_iff_ne, beq_eq_false_iff_ne, bne_eq_false_iff_eq, Int.toNat_natCast, ge_iff_le, gt_iff_lt, Bool.not_eq_true', Bool.not_eq_false', Int.not_lt, Int.not_le, ne_eq] at *)
  all_goals (try dsimp only [Ty.den, Ty.dflt, InT] at *)
  all_goals (try simp only [eq4, ne4, eq3, ne3, eq2, ne2, Prod.eta, List.length_cons, List.length_nil, List.length_append, Nat.zero_add] at *)
  all_goals (try simp (disch := omega) only [wrap64] at *)
  all_goals try first | exact leafDraw (by kernel_rfl) | exact Leaf.mk trivial | (refine Leaf.mk ?_; omega) | (refine Leaf.mk ?_; unfold maxLen; omega)
  · refine Leaf.mk (Exists.intro (i + 1) ⟨?_, by omega, by omega⟩)
    rw [hat (by omega), if_pos (show atP key (ps.getD i []) = true from ‹_›)]; rfl
  · refine Leaf.mk (Exists.intro (i + 1) ⟨?_, by omega, by omega⟩)
    rw [hat (by omega), if_neg (by rw [show atP key (ps.getD i []) = false from ‹_›]; simp)]; rfl
  · refine Leaf.mk (ret1 (show ((routeI (ps.take i) key : Nat) : Int) = (routeI ps key : Nat) from ?_))
    rw [List.take_of_length_le (by omega)]
end Go.Proofs.Ytjifalccioebnaa

set_option linter.unusedVariables false
set_option linter.unusedSimpArgs false
set_option maxRecDepth 8000
set_option maxHeartbeats 4000000
namespace Go.Proofs.Ytjifalccioebnaa
open Go.Eng
def max0 (k : Int) : Int := if k > 0 then k else 0
theorem max0_nn (k : Int) : 0 ≤ max0 k := by unfold max0; split <;> omega
theorem wrap64u {n : Int} (h0 : 0 ≤ n) (h1 : n ≤ 18446744073709551615) : IntKind.u64.wrap n = n := by
  unfold IntKind.wrap; simp [IntKind.signed, IntKind.bits]; omega
def pm (m : Msg) : List Int := (putR12 m).1
theorem pm_len (m : Msg) : (pm m).length ≤ 104 := by
  rw [pm, putR12]; split
  · rename_i h; exact putM_len h
  · simp
def kb (k : Int) (b : List Msg) : List Int := putSmall (max0 k) ++ (putSmall (b.length : Nat) ++ b.flatMap pm)
def kbs (n : Inn) (i : Nat) : List Int := (List.range i).flatMap fun j => kb (n.2.1.getD j 0) (n.2.2.getD j [])
theorem kbs_at (n : Inn) (i : Nat) : kbs n (i + 1) = kbs n i ++ kb (n.2.1.getD i 0) (n.2.2.getD i []) := by
  rw [kbs, List.range_succ, List.flatMap_append]; simp [kbs]
def layI (n : Inn) : List Int := putSmall (n.2.1.length : Nat) ++ n.1.flatMap putText ++ kbs n n.2.1.length
theorem flat_at2 {α β : Type} {f : α → List β} {l : List α} {i : Nat} (d : α) (h : i < l.length) : (l.take (i + 1)).flatMap f = (l.take i).flatMap f ++ f (l.getD i d) := by
  rw [take_at d h, List.flatMap_append]; simp
theorem flat_len2 {α β : Type} {f : α → List β} {m : Nat} : ∀ {l : List α}, (∀ x ∈ l, (f x).length ≤ m) → (l.flatMap f).length ≤ l.length * m
  | [], _ => by simp
  | x :: l, h => by
    rw [List.flatMap_cons, List.length_append, List.length_cons, Nat.add_mul]
    have := flat_len2 (l := l) fun y hy => h y (List.mem_cons_of_mem _ hy)
    have := h x List.mem_cons_self
    omega
theorem pms_len (b : List Msg) : (b.flatMap pm).length ≤ b.length * 104 := flat_len2 fun m _ => pm_len m
structure IPre (n : Inn) : Prop where
  p : n.1.length ≤ 20
  pt : ∀ p ∈ n.1, p.length ≤ 1000
  k : n.2.1.length ≤ 20
  b : n.2.2.length ≤ 20
  m : n.2.2.flatten.length ≤ 5000
theorem kbs_len (n : Inn) : ∀ i, i ≤ n.2.2.length → (kbs n i).length ≤ i * 18 + ((n.2.2.take i).flatten.length) * 104
  | 0, _ => by simp [kbs]
  | i + 1, h => by
    have ih := kbs_len n i (by omega)
    have h1 := putSmall_len (max0 (n.2.1.getD i 0))
    have h2 := putSmall_len ((n.2.2.getD i []).length : Nat)
    have h3 := pms_len (n.2.2.getD i [])
    rw [kbs_at, List.length_append, kb, List.length_append, List.length_append, flat_at (by omega), List.length_append]
    omega
theorem IPre.tl {n : Inn} (h : IPre n) (i : Nat) : ((n.1.take i).flatMap putText).length ≤ 20 * 2002 := by
  have h1 := flat_len2 (f := putText) (m := 2002) (l := n.1.take i) fun x hx => by
    have := putText_len x
    have := h.pt x (List.mem_of_mem_take hx)
    omega
  have h2 := h.p
  rw [List.length_take] at h1
  have : min i n.1.length * 2002 ≤ 20 * 2002 := Nat.mul_le_mul_right _ (by omega)
  omega
theorem IPre.kl {n : Inn} (h : IPre n) {i : Nat} (hi : i ≤ n.2.2.length) : (kbs n i).length ≤ 360 + 5000 * 104 := by
  have h1 := kbs_len n i hi
  have h2 := h.m
  have h3 := flat_le (xs := n.2.2) i
  have h4 := h.b
  have : (n.2.2.take i).flatten.length * 104 ≤ 5000 * 104 := Nat.mul_le_mul_right _ (by omega)
  omega
theorem IPre.bl {n : Inn} (h : IPre n) (i : Nat) : (n.2.2.getD i []).length ≤ 5000 := by
  by_cases hi : i < n.2.2.length
  · have h1 := flat_get (xs := n.2.2) hi
    have := h.m
    omega
  · rw [show n.2.2.getD i [] = [] from by simp [List.getD_eq_getElem?_getD, List.getElem?_eq_none (show n.2.2.length ≤ i by omega)]]; simp
theorem wrapMax {ks : List Int} (h : ∀ x ∈ ks, Eng.Good (.int .i64) x) (j : Nat) {inst : Decidable (ks.getD j 0 < 0)} : IntKind.u64.wrap (@ite _ (ks.getD j 0 < 0) inst 0 (ks.getD j 0)) = max0 (ks.getD j 0) := by
  have hb : -9223372036854775808 ≤ ks.getD j 0 ∧ ks.getD j 0 ≤ 9223372036854775807 := by
    by_cases hj : j < ks.length
    · exact bd64 (h _ (getD_mem (xs := ks) 0 hj))
    · rw [show ks.getD j 0 = 0 from by simp [List.getD_eq_getElem?_getD, List.getElem?_eq_none (show ks.length ≤ j by omega)]]; omega
  rw [show (@ite _ (ks.getD j 0 < 0) inst 0 (ks.getD j 0)) = max0 (ks.getD j 0) from by unfold max0; split <;> split <;> omega]
  have h0 := max0_nn (ks.getD j 0)
  have h1 : max0 (ks.getD j 0) ≤ 9223372036854775807 := by unfold max0; split <;> omega
  exact wrap64u h0 (by omega)
def sConcatO : PSpec := ⟨[.d (.slice BT)], [⟨false, [.o 5 (.int .u8)]⟩], fun x => List.length x.1 ≤ 1000 ∧ List.length (List.flatten (α := Int) x.1) ≤ 1000000, fun x => ((List.flatten (α := Int) x.1, ()), ())⟩
theorem fConcatO : FnOk Try.prog 73 := ⟨_, Try.func73, by decide, rfl⟩
theorem pConcatO : PSound Try.prog 73 sConcatO := by
  refine psound (T := tab) (S := (spOf [(88, iGrowB)])) (keep := k73) (by kernel_rfl) tabOk (spCons (.inl ⟨pGrowB, fGrowB⟩) spNil) (by kernel_rfl) Try.func73 (by kernel_rfl) (by decide) fun xs hg hp => ?_
  obtain ⟨xs, ⟨⟩⟩ := xs
  change List (List Int) at xs
  change xs.length ≤ 1000 ∧ xs.flatten.length ≤ 1000000 at hp
  obtain ⟨hp, hf⟩ := hp
  show vfun tab _ k73 Try.f73 [.sl BT xs] [] _
  refine Ev.out ?_
  repeat' (first | ((with_reducible refine Ev.mk ?_); conv => whnf) | (with_reducible refine And.intro ?_ ?_) | (intro h))
  refine LoopVC.on (fun i : Nat => [(11, .i .i64 i), (3, .i .i64 ((xs.take i).flatten.length : Nat))]) (fun _ => []) (fun i => i ≤ xs.length) (fun i => xs.length - i) 0 rfl (by omega) ?_
  intro i hi
  have hle := flat_le (xs := xs) i
  have hge := fun h => flat_get (xs := xs) (i := i) h
  repeat' (first | ((with_reducible refine Ev.mk ?_); conv => whnf) | (with_reducible refine And.intro ?_ ?_) | (intro h))
  all_goals (try simp only [decide_eq_true_eq, decide_eq_false_iff_not, beq_iff_eq, bne_iff_ne, beq_eq_false_iff_ne, bne_eq_false_iff_eq, Int.toNat_natCast, ge_iff_le, gt_iff_lt, Bool.not_eq_true', Bool.not_eq_false', Int.not_lt, Int.not_le, ne_eq] at *)
  all_goals (try dsimp only [Ty.den, Ty.dflt, BT] at *)
  all_goals (try simp only [eq4, ne4, eq3, ne3, eq2, ne2, Prod.eta, List.length_cons, List.length_nil, List.length_append, Nat.zero_add] at *)
  all_goals (try simp (disch := omega) only [wrap64] at *)
  all_goals try first | exact leafDraw (by kernel_rfl) | exact Leaf.mk trivial | (refine Leaf.mk ?_; omega) | (refine Leaf.mk ?_; unfold maxLen; omega)
  · omega
  · refine Leaf.mk ⟨i + 1, ?_, by omega, by omega⟩
    rw [flat_at (by omega), List.length_append]; simp only [Int.natCast_add]; rfl
  · omega
  · refine LoopVC.on (fun j : Nat => [(27, .i .i64 j)]) (fun j => [(0, .arr 5 (.int .u8) (xs.take j).flatten)]) (fun j => j ≤ xs.length) (fun j => xs.length - j) 0 rfl (by omega) ?_
    intro j hj
    have hle := flat_le (xs := xs) j
    have hge := fun h => flat_get (xs := xs) (i := j) h
    repeat' (first | ((with_reducible refine Ev.mk ?_); conv => whnf) | (with_reducible refine And.intro ?_ ?_) | (intro h))
    all_goals (try simp only [decide_eq_true_eq, decide_eq_false_iff_not, beq_iff_eq, bne_iff_ne, beq_eq_false_iff_ne, bne_eq_false_iff_eq, Int.toNat_natCast, ge_iff_le, gt_iff_lt, Bool.not_eq_true', Bool.not_eq_false', Int.not_lt, Int.not_le, ne_eq] at *)
    all_goals (try dsimp only [Ty.den, Ty.dflt, BT] at *)
    all_goals (try simp only [eq4, ne4, eq3, ne3, eq2, ne2, Prod.eta, List.length_cons, List.length_nil, List.length_append, Nat.zero_add] at *)
    all_goals (try simp (disch := omega) only [wrap64] at *)
    all_goals try first | exact leafDraw (by kernel_rfl) | exact Leaf.mk trivial | (refine Leaf.mk ?_; omega) | (refine Leaf.mk ?_; unfold maxLen; omega)
    · refine Leaf.mk ⟨j + 1, ?_, by omega, by omega⟩
      rw [flat_at (by omega)]; rfl
    · rw [List.take_of_length_le (by omega)]; exact Leaf.mk (ret1 rfl)
  · refine LoopVC.weak [(.slot 6, .nil 5 (.int .u8))] (fun j : Nat => [(27, .i .i64 j)]) (fun j => [(0, .arr 5 (.int .u8) (xs.take j).flatten)]) (fun j => j ≤ xs.length) (fun j => xs.length - j) 0 (Ev.mk ?_)
    (conv => whnf)
    refine ⟨Leaf.mk rfl, Leaf.mk ?_, ?_⟩
    · omega
    intro j hj
    have hle := flat_le (xs := xs) j
    have hge := fun h => flat_get (xs := xs) (i := j) h
    repeat' (first | ((with_reducible refine Ev.mk ?_); conv => whnf) | (with_reducible refine And.intro ?_ ?_) | (intro h))
    all_goals (try simp only [decide_eq_true_eq, decide_eq_false_iff_not, beq_iff_eq, bne_iff_ne, beq_eq_false_iff_ne, bne_eq_false_iff_eq, Int.toNat_natCast, ge_iff_le, gt_iff_lt, Bool.not_eq_true', Bool.not_eq_false', Int.not_lt, Int.not_le, ne_eq] at *)
    all_goals (try dsimp only [Ty.den, Ty.dflt, BT] at *)
    all_goals (try simp only [eq4, ne4, eq3, ne3, eq2, ne2, Prod.eta, List.length_cons, List.length_nil, List.length_append, Nat.zero_add] at *)
    all_goals (try simp (disch := omega) only [wrap64] at *)
    all_goals try first | exact leafDraw (by kernel_rfl) | exact Leaf.mk trivial | (refine Leaf.mk ?_; omega) | (refine Leaf.mk ?_; unfold maxLen; omega)
    · refine Leaf.mk ⟨j + 1, ?_, by omega, by omega⟩
      rw [flat_at (by omega)]; rfl
    · rw [List.take_of_length_le (by omega)]; exact Leaf.mk (ret1 rfl)
theorem catO (a b c : List Int) : (sConcatO.fn ([a, b, c], ())).1.1 = a ++ (b ++ c) := by
  show List.flatten [a, b, c] = _
  simp
def sLayI : PSpec := ⟨[.d InT], [⟨false, [.o 5 (.int .u8)]⟩], fun x => IPre x.1 ∧ wholeI x.1 = true, fun x => ((layI x.1, ()), ())⟩
def sLayIR : PSpec := sLayI
theorem fLayI : FnOk Try.prog 45 := ⟨_, Try.func45, by decide, rfl⟩
theorem pLayI : PSound Try.prog 45 sLayI := by
  refine psound (T := tab) (S := (spOf [(71, sPutSmall.spec (lsOf [])), (72, sPutText.spec (lsOf [])), (73, sConcatO.spec (lsOf [])), (74, sMPut.spec (lsOf []))])) (keep := k45) (by kernel_rfl) tabOk (spCons (pOk pPutSmall fPutSmall (by decide) lsNil) (spCons (pOk pPutText fPutText (by decide) lsNil) (spCons (pOk pConcatO fConcatO (by decide) lsNil) (spCons (pOk pMPut fMPut (by decide) lsNil) spNil)))) (by kernel_rfl) Try.func45 (by kernel_rfl) (by decide) fun xs hg hp => ?_
  obtain ⟨⟨ps, ks, bs⟩, ⟨⟩⟩ := xs
  obtain ⟨⟨⟨-, -⟩, ⟨-, hgk⟩, ⟨-, -⟩⟩, -⟩ := hg
  change List (List UInt8) at ps
  change List Int at ks
  change List (List Msg) at bs
  change ∀ x ∈ ks, Eng.Good (.int .i64) x at hgk
  obtain ⟨hp, hw⟩ := hp
  change IPre (ps, ks, bs) at hp
  obtain ⟨hw1, hw2⟩ := wholeI_iff.1 hw
  change bs.length = ks.length at hw1
  change ps.length + 1 = ks.length at hw2
  have hP := hp.p
  have hK := hp.k
  have hB := hp.b
  have hT := hp.tl
  have hKl := fun i h => hp.kl (i := i) h
  have hBl := hp.bl
  have hpt := fun i (h : i < ps.length) => hp.pt _ (getD_mem (xs := ps) [] h)
  dsimp only at hP hK hB hT hKl hBl
  clear hp hw
  show vfun tab _ k45 Try.f45 [.agg [.sl .str ps, .sl (.int .i64) ks, .sl (.slice MsgT) bs]] [] _
  refine Ev.out ?_
  repeat' (first | ((with_reducible refine Ev.mk ?_); conv => whnf) | (with_reducible refine And.intro ?_ ?_) | (intro h))
  all_goals (try simp only [decide_eq_true_eq, decide_eq_false_iff_not, beq_iff_eq, bne_iff_ne, beq_eq_false_iff_ne, bne_eq_false_iff_eq, Int.toNat_natCast, ge_iff_le, gt_iff_lt, Bool.not_eq_true', Bool.not_eq_false', Int.not_lt, Int.not_le, ne_eq] at *)
  all_goals (try dsimp only [Ty.den, Ty.dflt, InT, sPutSmall] at *)
  all_goals (try simp only [eq4, ne4, eq3, ne3, eq2, ne2, Prod.eta, List.length_cons, List.length_nil, List.length_append, Nat.zero_add] at *)
  all_goals (try simp (disch := omega) only [wrap64] at *)
  all_goals try first | exact leafDraw (by kernel_rfl) | exact Leaf.mk trivial | (refine Leaf.mk ?_; omega) | (refine Leaf.mk ?_; unfold maxLen; omega)
  rw [wrap64u (n := (ks.length : Nat)) (by omega) (by omega)]
  refine LoopVC.on (fun i : Nat => [(20, .i .i64 i)]) (fun i => [(1, .arr 5 (.int .u8) (putSmall (ks.length : Nat) ++ (ps.take i).flatMap putText))]) (fun i => i ≤ ps.length) (fun i => ps.length - i) 0 ?_ (by omega) ?_
  · rw [List.take_zero, List.flatMap_nil, List.append_nil]; rfl
  intro i hi
  have hti := hT i
  have hs0 := putSmall_len (ks.length : Nat)
  repeat' (first | ((with_reducible refine Ev.mk ?_); conv => whnf) | (with_reducible refine And.intro ?_ ?_) | (intro h))
  all_goals (try simp only [decide_eq_true_eq, decide_eq_false_iff_not, beq_iff_eq, bne_iff_ne, beq_eq_false_iff_ne, bne_eq_false_iff_eq, Int.toNat_natCast, ge_iff_le, gt_iff_lt, Bool.not_eq_true', Bool.not_eq_false', Int.not_lt, Int.not_le, ne_eq] at *)
  all_goals (try dsimp only [Ty.den, Ty.dflt, InT, sPutSmall, sPutText] at *)
  all_goals (try simp only [eq4, ne4, eq3, ne3, eq2, ne2, Prod.eta, List.length_cons, List.length_nil, List.length_append, Nat.zero_add] at *)
  all_goals (try simp (disch := omega) only [wrap64] at *)
  all_goals try first | exact leafDraw (by kernel_rfl) | exact Leaf.mk trivial | (refine Leaf.mk ?_; omega) | (refine Leaf.mk ?_; unfold maxLen; omega)
  all_goals try
    have hx := hpt i (by omega)
    have hx2 := putText_len (ps.getD i [])
  all_goals first
    | (refine Leaf.mk ?_; omega)
    | (refine Leaf.mk ?_; unfold maxLen; omega)
    | (refine Leaf.mk (Exists.intro (i + 1) ⟨?_, by omega, by omega⟩)
       rw [flat_at2 [] (by omega), ← List.append_assoc]; rfl)
    | skip
  refine LoopVC.on (fun i : Nat => [(32, .i .i64 i)]) (fun i => [(1, .arr 5 (.int .u8) (putSmall (ks.length : Nat) ++ ps.flatMap putText ++ kbs (ps, ks, bs) i))]) (fun i => i ≤ ks.length) (fun i => ks.length - i) 0 ?_ (by omega) ?_
  · rw [List.take_of_length_le (by omega)]; simp only [kbs, List.range_zero, List.flatMap_nil, List.append_nil]; rfl
  clear hpt
  intro j hj
  have hat := kbs_at (ps, ks, bs) j
  have hkj := hKl j (by omega)
  have hbj := hBl j
  have htl := hT ps.length
  rw [List.take_length] at htl
  repeat' (first | ((with_reducible refine Ev.mk ?_); conv => whnf) | (with_reducible refine And.intro ?_ ?_) | (intro h))
  all_goals (try simp only [decide_eq_true_eq, decide_eq_false_iff_not, beq_iff_eq, bne_iff_ne, beq_eq_false_iff_ne, bne_eq_false_iff_eq, Int.toNat_natCast, ge_iff_le, gt_iff_lt, Bool.not_eq_true', Bool.not_eq_false', Int.not_lt, Int.not_le, ne_eq] at *)
  all_goals (try dsimp only [Ty.den, Ty.dflt, InT, sPutSmall, sPutText] at *)
  all_goals (try simp only [eq4, ne4, eq3, ne3, eq2, ne2, Prod.eta, List.length_cons, List.length_nil, List.length_append, Nat.zero_add] at *)
  all_goals (try simp (disch := omega) only [wrap64] at *)
  all_goals try first | exact leafDraw (by kernel_rfl) | exact Leaf.mk trivial | (refine Leaf.mk ?_; omega) | (refine Leaf.mk ?_; unfold maxLen; omega)
  all_goals try simp only [wrap64u (n := ((bs.getD j []).length : Nat)) (by omega) (by omega)] at *
  all_goals try erw [wrapMax hgk j]
  · refine Leaf.mk (show _ ∧ _ from ⟨(show 3 ≤ 1000 by decide), ?_⟩)
    simp only [List.flatten_cons, List.flatten_nil, List.length_append, List.length_nil]
    have h1 := putSmall_len (max0 (ks.getD j 0))
    have h2 := putSmall_len ((bs.getD j []).length : Nat)
    omega
  · refine LoopVC.on (fun i : Nat => [(58, .i .i64 i)]) (fun i => [(1, .arr 5 (.int .u8) (putSmall (ks.length : Nat) ++ ps.flatMap putText ++ kbs (ps, ks, bs) j ++ (putSmall (max0 (ks.getD j 0)) ++ (putSmall ((bs.getD j []).length : Nat) ++ ((bs.getD j []).take i).flatMap pm))))]) (fun i => i ≤ (bs.getD j []).length) (fun i => (bs.getD j []).length - i) 0 ?_ (by omega) ?_
    · rw [List.take_zero, List.flatMap_nil, List.append_nil, catO]; rfl
    intro q hq
    have h1 := putSmall_len (max0 (ks.getD j 0))
    have h2 := putSmall_len ((bs.getD j []).length : Nat)
    have h3 := pms_len ((bs.getD j []).take q)
    have h4 : (putR12 ((bs.getD j []).getD q (0, [], 0, 0, false, []))).1.length ≤ 104 := pm_len ((bs.getD j []).getD q msg0)
    rw [List.length_take] at h3
    repeat' (first | ((with_reducible refine Ev.mk ?_); conv => whnf) | (with_reducible refine And.intro ?_ ?_) | (intro h))
    all_goals (try simp only [decide_eq_true_eq, decide_eq_false_iff_not, beq_iff_eq, bne_iff_ne, beq_eq_false_iff_ne, bne_eq_false_iff_eq, Int.toNat_natCast, ge_iff_le, gt_iff_lt, Bool.not_eq_true', Bool.not_eq_false', Int.not_lt, Int.not_le, ne_eq] at *)
    all_goals (try dsimp only [Ty.den, Ty.dflt, InT, sPutSmall, sPutText, sMPut] at *)
    all_goals (try simp only [eq4, ne4, eq3, ne3, eq2, ne2, Prod.eta, List.length_cons, List.length_nil, List.length_append, Nat.zero_add] at *)
    all_goals (try simp (disch := omega) only [wrap64] at *)
    all_goals try first | exact leafDraw (by kernel_rfl) | exact Leaf.mk trivial | (refine Leaf.mk ?_; omega) | (refine Leaf.mk ?_; unfold maxLen; omega)
    all_goals first
      | (refine Leaf.mk ?_; omega)
      | (refine Leaf.mk ?_; unfold maxLen; omega)
      | (refine Leaf.mk (Exists.intro (q + 1) ⟨?_, by omega, by omega⟩)
         rw [flat_at2 msg0 (by omega)]; simp only [List.append_assoc]; rfl)
      | (refine Leaf.mk (Exists.intro (j + 1) ⟨?_, by omega, by omega⟩)
         rw [hat, kb, List.take_of_length_le (by omega)]; simp only [List.append_assoc]; rfl)
      | skip
  · refine Leaf.mk (ret1 (show putSmall (ks.length : Nat) ++ ps.flatMap putText ++ kbs (ps, ks, bs) j = layI (ps, ks, bs) from ?_))
    rw [layI, show j = ks.length by omega]
end Go.Proofs.Ytjifalccioebnaa

set_option linter.unusedVariables false
set_option linter.unusedSimpArgs false
set_option maxRecDepth 8000
set_option maxHeartbeats 4000000
namespace Go.Proofs.Ytjifalccioebnaa
open Go.Eng
def sizeI (n : Inn) : Nat := if wholeI n = true then (layI n).length else 0
def sISize : PSpec := ⟨[.d InT], [⟨false, [.d (.int .i64)]⟩], fun x => IPre x.1, fun x => (((sizeI x.1 : Nat), ()), ())⟩
theorem fISize : FnOk Try.prog 26 := ⟨_, Try.func26, by decide, rfl⟩
theorem pISize : PSound Try.prog 26 sISize := by
  refine psound (T := tab) (S := (spOf [(34, sWhole.spec (lsOf [])), (45, sLayI.spec (lsOf []))])) (keep := k26) (by kernel_rfl) tabOk (spCons (pOk pWhole fWhole (by decide) lsNil) (spCons (pOk pLayI fLayI (by decide) lsNil) spNil)) (by kernel_rfl) Try.func26 (by kernel_rfl) (by decide) fun xs hg hp => ?_
  obtain ⟨⟨ps, ks, bs⟩, ⟨⟩⟩ := xs
  clear hg
  change List (List UInt8) at ps
  change List Int at ks
  change List (List Msg) at bs
  change IPre (ps, ks, bs) at hp
  show vfun tab _ k26 Try.f26 [.agg [.sl .str ps, .sl (.int .i64) ks, .sl (.slice MsgT) bs]] [] _
  refine Ev.out ?_
  repeat' (first | ((with_reducible refine Ev.mk ?_); conv => whnf) | (with_reducible refine And.intro ?_ ?_) | (intro h))
  all_goals (try simp only [decide_eq_true_eq, decide_eq_false_iff_not, beq_iff_eq, bne_iff_ne, beq_eq_false_iff_ne, bne_eq_false_iff_eq, Int.toNat_natCast, ge_iff_le, gt_iff_lt, Bool.not_eq_true', Bool.not_eq_false', Int.not_lt, Int.not_le, ne_eq] at *)
  all_goals (try dsimp only [Ty.den, Ty.dflt, InT, sWhole, sWholeR, sLayI, sLayIR] at *)
  all_goals (try simp only [eq4, ne4, eq3, ne3, eq2, ne2, Prod.eta, List.length_cons, List.length_nil, List.length_append, Nat.zero_add] at *)
  all_goals (try simp (disch := omega) only [wrap64] at *)
  all_goals try first | exact leafDraw (by kernel_rfl) | exact Leaf.mk trivial | (refine Leaf.mk ?_; omega) | (refine Leaf.mk ?_; unfold maxLen; omega)
  all_goals first
    | exact Leaf.mk ⟨hp, ‹wholeI (ps, ks, bs) = true›⟩
    | (refine Leaf.mk (ret1 (show (0 : Int) = (sizeI (ps, ks, bs) : Nat) from ?_)); rw [sizeI, if_neg (by rw [show wholeI (ps, ks, bs) = false from ‹_›]; simp)]; rfl)
    | (refine Leaf.mk (ret1 (show (((layI (ps, ks, bs)).length : Nat) : Int) = (sizeI (ps, ks, bs) : Nat) from ?_)); rw [sizeI, if_pos ‹wholeI (ps, ks, bs) = true›])
    | skip
end Go.Proofs.Ytjifalccioebnaa
