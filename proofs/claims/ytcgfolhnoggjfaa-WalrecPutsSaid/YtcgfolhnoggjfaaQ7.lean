import Derived.Test.YtcgfolhnoggjfaaQ6
import Derived.Test.YtcgfolhnoggjfaaEng4
import Derived.Shelf.Sort.Plain
import Derived.Shelf.SlIterI.Nil
import Derived.Test.YtcgfolhnoggjfaaProg
import Derived.Test.YtcgfolhnoggjfaaEng5
/- Texts, one behind the other. -/
set_option linter.unusedVariables false
set_option linter.unusedSimpArgs false
set_option maxRecDepth 8000
set_option maxHeartbeats 4000000
namespace Go.Proofs.Ytcgfolhnoggjfaa
open Go.Eng
abbrev RecT : Ty := .pair (.int .u8) (.pair (.int .i64) (.pair (.int .i64) (.pair .str (.pair .bool .str))))
abbrev Rec : Type := Int × Int × Int × List UInt8 × Bool × List UInt8
abbrev rec0 : Rec := (0, 0, 0, [], false, [])
section
variable {α β γ δ ε ζ : Type} [BEq α] [LawfulBEq α] [BEq β] [LawfulBEq β] [BEq γ] [LawfulBEq γ] [BEq δ] [LawfulBEq δ] [BEq ε] [LawfulBEq ε] [BEq ζ] [LawfulBEq ζ]
theorem eqR6 {x y : α × β × γ × δ × ε × ζ} : (x.1 == y.1 && (x.2.1 == y.2.1 && (x.2.2.1 == y.2.2.1 && (x.2.2.2.1 == y.2.2.2.1 && (x.2.2.2.2.1 == y.2.2.2.2.1 && x.2.2.2.2.2 == y.2.2.2.2.2))))) = true ↔ x = y := by
  obtain ⟨a, b, e, g, i, j⟩ := x; obtain ⟨c, d, f, k, l, m⟩ := y
  simp
theorem neR6 {x y : α × β × γ × δ × ε × ζ} : (x.1 == y.1 && (x.2.1 == y.2.1 && (x.2.2.1 == y.2.2.1 && (x.2.2.2.1 == y.2.2.2.1 && (x.2.2.2.2.1 == y.2.2.2.2.1 && x.2.2.2.2.2 == y.2.2.2.2.2))))) = false ↔ ¬ x = y := by
  rw [← eqR6, Bool.not_eq_true]
end
structure OwnW (r : Rec) : Prop where
  txn : r.1 = 4 → r.2.1 = 0
  ts : r.1 = 0 ∨ r.1 = 2 ∨ r.1 = 4 ∨ r.2.2.1 = 0
  wr : r.1 = 1 ∨ (r.2.2.2.1 = [] ∧ r.2.2.2.2.2 = [] ∧ r.2.2.2.2.1 = false)
  gone : r.2.2.2.2.1 = true → r.2.2.2.2.2 = []
def ownW (r : Rec) : Bool := (!(r.1 == 4) || r.2.1 == 0) && ((r.1 == 0 || r.1 == 2 || r.1 == 4) || r.2.2.1 == 0) && (r.1 == 1 || (r.2.2.2.1 ++ r.2.2.2.2.2 == [] && !r.2.2.2.2.1)) && !(r.2.2.2.2.1 && !(r.2.2.2.2.2 == []))
theorem ownW_iff {r : Rec} : ownW r = true ↔ OwnW r := by
  obtain ⟨k, t, s, key, g, v⟩ := r
  unfold ownW
  simp only [Bool.and_eq_true, Bool.or_eq_true, Bool.not_eq_true', beq_iff_eq, beq_eq_false_iff_ne, List.append_eq_nil_iff, Bool.and_eq_false_iff]
  constructor
  · rintro ⟨⟨⟨h1, h2⟩, h3⟩, h4⟩
    refine ⟨fun h => ?_, ?_, ?_, fun h => ?_⟩
    · rcases h1 with h1 | h1
      · exact absurd h h1
      · exact h1
    · rcases h2 with ((h2 | h2) | h2) | h2 <;> simp [h2]
    · rcases h3 with h3 | h3
      · exact .inl h3
      · exact .inr ⟨h3.1.1, h3.1.2, h3.2⟩
    · rcases h4 with h4 | h4
      · exact absurd (show g = true from h) (by rw [h4]; simp)
      · exact Classical.not_not.1 (by simpa using h4)
  · rintro ⟨h1, h2, h3, h4⟩
    refine ⟨⟨⟨?_, ?_⟩, ?_⟩, ?_⟩
    · by_cases h : k = 4
      · exact .inr (h1 h)
      · exact .inl h
    · rcases h2 with h2 | h2 | h2 | h2
      · exact .inl (.inl (.inl h2))
      · exact .inl (.inl (.inr h2))
      · exact .inl (.inr h2)
      · exact .inr h2
    · rcases h3 with h3 | ⟨h3, h5, h6⟩
      · exact .inl h3
      · exact .inr ⟨⟨h3, h5⟩, h6⟩
    · cases hg : g
      · exact .inl rfl
      · exact .inr (by simpa using h4 hg)
def sWOwn : PSpec := ⟨[.d RecT], [⟨false, [.d .bool]⟩], fun x => List.length x.1.2.2.2.1 ≤ 1000000 ∧ List.length x.1.2.2.2.2.2 ≤ 1000000, fun x => ((ownW x.1, ()), ())⟩
theorem fWOwn : FnOk Try.prog 68 := ⟨_, Try.func68, by decide, rfl⟩
theorem pWOwn : PSound Try.prog 68 sWOwn := by
  refine psound (T := tab) (S := (spOf [])) (keep := k68) (by kernel_rfl) tabOk spNil (by kernel_rfl) Try.func68 (by kernel_rfl) (by decide) fun xs hg hp => ?_
  obtain ⟨⟨k, t, s, key, g, v⟩, ⟨⟩⟩ := xs
  change List UInt8 at key
  change List UInt8 at v
  change Int at k t s
  change Bool at g
  change key.length ≤ 1000000 ∧ v.length ≤ 1000000 at hp
  clear hg
  show vfun tab _ k68 Try.f68 [.agg [.i .u8 k, .i .i64 t, .i .i64 s, .s key, .b g, .s v]] [] _
  refine Ev.out ?_
  repeat' (first | ((with_reducible refine Ev.mk ?_); conv => whnf) | (with_reducible refine And.intro ?_ ?_) | (intro h))
  all_goals (try simp only [decide_eq_true_eq, decide_eq_false_iff_not, beq_iff_eq, bne_iff_ne, beq_eq_false_iff_ne, bne_eq_false_iff_eq, Int.toNat_natCast, ge_iff_le, gt_iff_lt, Bool.not_eq_true', Bool.not_eq_false', Int.not_lt, Int.not_le, ne_eq] at *)
  all_goals (try dsimp only [Ty.den, Ty.dflt, RecT] at *)
  all_goals (try simp only [eq4, ne4, eq3, ne3, eq2, ne2, Prod.eta, List.length_cons, List.length_nil, List.length_append, Nat.zero_add] at *)
  all_goals (try simp (disch := omega) only [wrap64] at *)
  all_goals try first | exact leafDraw (by kernel_rfl) | exact Leaf.mk trivial | (refine Leaf.mk ?_; omega) | (refine Leaf.mk ?_; unfold maxLen; omega)
  all_goals
    refine Leaf.mk (ret1 (show (_ : Bool) = ownW (k, t, s, key, g, v) from ?_))
    simp_all [ownW]
def sWIn : PSpec := sIn
theorem fWIn : FnOk Try.prog 69 := ⟨_, Try.func69, by decide, rfl⟩
theorem pWIn : PSound Try.prog 69 sWIn := by
  refine psound (T := tab) (S := (spOf [])) (keep := k69) (by kernel_rfl) tabOk spNil (by kernel_rfl) Try.func69 (by kernel_rfl) (by decide) fun xs hg hp => ?_
  obtain ⟨n, ⟨⟩⟩ := xs
  change Int at n
  show vfun tab _ k69 Try.f69 [.i .i64 n] [] _
  refine Ev.out ?_
  repeat' (first | ((with_reducible refine Ev.mk ?_); conv => whnf) | (with_reducible refine And.intro ?_ ?_) | (intro h))
  all_goals (try simp only [decide_eq_true_eq, decide_eq_false_iff_not, beq_iff_eq, bne_iff_ne, beq_eq_false_iff_ne, bne_eq_false_iff_eq, Int.toNat_natCast, ge_iff_le, gt_iff_lt, Bool.not_eq_true', Bool.not_eq_false', Int.not_lt, Int.not_le, ne_eq] at *)
  all_goals (try dsimp only [Ty.den, Ty.dflt, RecT] at *)
  all_goals (try simp only [eq4, ne4, eq3, ne3, eq2, ne2, Prod.eta, List.length_cons, List.length_nil, List.length_append, Nat.zero_add] at *)
  all_goals (try simp (disch := omega) only [wrap64] at *)
  all_goals
    refine Leaf.mk (ret1 (show _ = inB n from ?_))
    simp only [inB]
    first
    | (rw [decide_eq_false (p := 0 ≤ n ∧ n ≤ 1099511627776) (by omega)]; done)
    | (congr 1; simp only [eq_iff_iff]; omega)
def checkW (r : Rec) : Int := if 4 < r.1 then 13 else if ownW r = false then 4 else if ¬ (inB r.2.1 = true ∧ inB r.2.2.1 = true) then 9 else if 16 < r.2.2.2.1.length ∨ 24 < r.2.2.2.2.2.length then 5 else 0
def sWCheck : PSpec := ⟨[.d RecT], [⟨false, [.d (.int .i64)]⟩], fun x => List.length x.1.2.2.2.1 ≤ 1000000 ∧ List.length x.1.2.2.2.2.2 ≤ 1000000, fun x => ((checkW x.1, ()), ())⟩
theorem fWCheck : FnOk Try.prog 39 := ⟨_, Try.func39, by decide, rfl⟩
theorem pWCheck : PSound Try.prog 39 sWCheck := by
  refine psound (T := tab) (S := (spOf [(68, sWOwn.spec (lsOf [])), (69, sWIn.spec (lsOf []))])) (keep := k39) (by kernel_rfl) tabOk (spCons (pOk pWOwn fWOwn (by decide) lsNil) (spCons (pOk pWIn fWIn (by decide) lsNil) spNil)) (by kernel_rfl) Try.func39 (by kernel_rfl) (by decide) fun xs hg hp => ?_
  obtain ⟨⟨k, t, s, key, g, v⟩, ⟨⟩⟩ := xs
  obtain ⟨⟨hk, -⟩, -⟩ := hg
  change List UInt8 at key
  change List UInt8 at v
  change Int at k t s
  change Bool at g
  have hk := bdu8 hk
  change key.length ≤ 1000000 ∧ v.length ≤ 1000000 at hp
  show vfun tab _ k39 Try.f39 [.agg [.i .u8 k, .i .i64 t, .i .i64 s, .s key, .b g, .s v]] [] _
  refine Ev.out ?_
  repeat' (first | ((with_reducible refine Ev.mk ?_); conv => whnf) | (with_reducible refine And.intro ?_ ?_) | (intro h))
  all_goals (try simp only [decide_eq_true_eq, decide_eq_false_iff_not, beq_iff_eq, bne_iff_ne, beq_eq_false_iff_ne, bne_eq_false_iff_eq, Int.toNat_natCast, ge_iff_le, gt_iff_lt, Bool.not_eq_true', Bool.not_eq_false', Int.not_lt, Int.not_le, ne_eq] at *)
  all_goals (try dsimp only [Ty.den, Ty.dflt, RecT, sWOwn, sWIn, sIn] at *)
  all_goals (try simp only [eq4, ne4, eq3, ne3, eq2, ne2, Prod.eta, List.length_cons, List.length_nil, List.length_append, Nat.zero_add] at *)
  all_goals (try simp (disch := omega) only [wrap64] at *)
  all_goals try first | exact leafDraw (by kernel_rfl) | exact Leaf.mk trivial | (refine Leaf.mk ?_; omega) | (refine Leaf.mk ?_; unfold maxLen; omega)
  all_goals try exact Leaf.mk (show key.length ≤ 1000000 ∧ v.length ≤ 1000000 from hp)
  all_goals
    refine Leaf.mk (ret1 (show (_ : Int) = checkW (k, t, s, key, g, v) from ?_))
    rw [checkW]
    dsimp only
    repeat' split
    all_goals first | rfl | (exfalso; first | omega | simp_all)
def onlyW (r : Rec) : Rec := (r.1, if r.1 = 4 then 0 else r.2.1, if r.1 = 0 ∨ r.1 = 2 ∨ r.1 = 4 then r.2.2.1 else 0, if r.1 = 1 then r.2.2.2.1 else [], if r.1 = 1 then r.2.2.2.2.1 else false, if r.1 = 1 ∧ r.2.2.2.2.1 = false then r.2.2.2.2.2 else [])
theorem onlyW_iff {r : Rec} : r = onlyW r ↔ OwnW r := by
  obtain ⟨k, t, s, key, g, v⟩ := r
  simp only [onlyW, Prod.mk.injEq, true_and]
  constructor
  · rintro ⟨h1, h2, h3, h4, h5⟩
    refine ⟨fun h => by rw [if_pos h] at h1; exact h1, ?_, ?_, fun h => ?_⟩
    · by_cases h : k = 0 ∨ k = 2 ∨ k = 4
      · rcases h with h | h | h <;> simp [h]
      · rw [if_neg h] at h2; exact .inr (.inr (.inr h2))
    · by_cases h : k = 1
      · exact .inl h
      · rw [if_neg h] at h3 h4
        rw [if_neg (fun hc => h hc.1)] at h5
        exact .inr ⟨h3, h5, h4⟩
    · rw [if_neg (fun hc => by rw [show g = true from h] at hc; simp at hc)] at h5
      exact h5
  · rintro ⟨h1, h2, h3, h4⟩
    dsimp only at h1 h2 h3 h4
    refine ⟨?_, ?_, ?_, ?_, ?_⟩
    · split
      · rename_i h; exact h1 h
      · rfl
    · split
      · rfl
      · rename_i h
        rcases h2 with h2 | h2 | h2 | h2
        · exact absurd (.inl h2) h
        · exact absurd (.inr (.inl h2)) h
        · exact absurd (.inr (.inr h2)) h
        · exact h2
    · split
      · rfl
      · rename_i h
        rcases h3 with h3 | h3
        · exact absurd h3 h
        · exact h3.1
    · split
      · rfl
      · rename_i h
        rcases h3 with h3 | h3
        · exact absurd h3 h
        · exact h3.2.2
    · split
      · rfl
      · rename_i h
        rcases h3 with h3 | h3
        · cases hg : g
          · exact absurd ⟨h3, hg⟩ h
          · exact h4 hg
        · exact h3.2.1
def sWOnly : PSpec := ⟨[.d RecT], [⟨true, [.d RecT]⟩], fun _ => True, fun x => ((onlyW x.1, ()), ())⟩
theorem fWOnly : FnOk Try.prog 70 := ⟨_, Try.func70, by decide, rfl⟩
theorem pWOnly : PSound Try.prog 70 sWOnly := by
  refine psound (T := tab) (S := (spOf [])) (keep := k70) (by kernel_rfl) tabOk spNil (by kernel_rfl) Try.func70 (by kernel_rfl) (by decide) fun xs hg hp => ?_
  obtain ⟨⟨k, t, s, key, g, v⟩, ⟨⟩⟩ := xs
  obtain ⟨⟨hk, -⟩, -⟩ := hg
  change List UInt8 at key
  change List UInt8 at v
  change Int at k t s
  change Bool at g
  have hk := bdu8 hk
  clear hp
  show vfun tab _ k70 Try.f70 [.agg [.i .u8 k, .i .i64 t, .i .i64 s, .s key, .b g, .s v]] [] _
  refine Ev.out ?_
  repeat' (first | ((with_reducible refine Ev.mk ?_); conv => whnf) | (with_reducible refine And.intro ?_ ?_) | (intro h))
  all_goals (try simp only [decide_eq_true_eq, decide_eq_false_iff_not, beq_iff_eq, bne_iff_ne, beq_eq_false_iff_ne, bne_eq_false_iff_eq, Int.toNat_natCast, ge_iff_le, gt_iff_lt, Bool.not_eq_true', Bool.not_eq_false', Int.not_lt, Int.not_le, ne_eq] at *)
  all_goals (try dsimp only [Ty.den, Ty.dflt, RecT] at *)
  all_goals (try simp only [eq4, ne4, eq3, ne3, eq2, ne2, Prod.eta, List.length_cons, List.length_nil, List.length_append, Nat.zero_add] at *)
  all_goals (try simp (disch := omega) only [wrap64] at *)
  all_goals try first | exact leafDraw (by kernel_rfl) | exact Leaf.mk trivial | (refine Leaf.mk ?_; omega) | (refine Leaf.mk ?_; unfold maxLen; omega)
  all_goals
    refine Leaf.mk (ret1 (show (_ : Rec) = onlyW (k, t, s, key, g, v) from ?_))
    simp_all [onlyW]
def sWCheckR : PSpec := ⟨[.d RecT], [⟨false, [.d (.int .i64)]⟩], fun _ => True, fun x => ((checkW x.1, ()), ())⟩
theorem fWCheckR : FnOk Try.prog 40 := ⟨_, Try.func40, by decide, rfl⟩
theorem pWCheckR : PSound Try.prog 40 sWCheckR := by
  refine psound (T := tab) (S := (spOf [(70, sWOnly.spec (lsOf []))])) (keep := k40) (by kernel_rfl) tabOk (spCons (pOk pWOnly fWOnly (by decide) lsNil) spNil) (by kernel_rfl) Try.func40 (by kernel_rfl) (by decide) fun xs hg hp => ?_
  obtain ⟨⟨k, t, s, key, g, v⟩, ⟨⟩⟩ := xs
  obtain ⟨⟨hk, -⟩, -⟩ := hg
  change List UInt8 at key
  change List UInt8 at v
  change Int at k t s
  change Bool at g
  have hk := bdu8 hk
  clear hp
  show vfun tab _ k40 Try.f40 [.agg [.i .u8 k, .i .i64 t, .i .i64 s, .s key, .b g, .s v]] [] _
  refine Ev.out ?_
  repeat' (first | ((with_reducible refine Ev.mk ?_); conv => whnf) | (with_reducible refine And.intro ?_ ?_) | (intro h))
  all_goals (try simp only [decide_eq_true_eq, decide_eq_false_iff_not, beq_iff_eq, bne_iff_ne, beq_eq_false_iff_ne, bne_eq_false_iff_eq, Int.toNat_natCast, ge_iff_le, gt_iff_lt, Bool.not_eq_true', Bool.not_eq_false', Int.not_lt, Int.not_le, ne_eq] at *)
  all_goals (try dsimp only [Ty.den, Ty.dflt, RecT] at *)
  all_goals (try simp only [eq4, ne4, eq3, ne3, eq2, ne2, Prod.eta, List.length_cons, List.length_nil, List.length_append, Nat.zero_add] at *)
  all_goals (try simp (disch := omega) only [wrap64] at *)
  all_goals try first | exact leafDraw (by kernel_rfl) | exact Leaf.mk trivial | (refine Leaf.mk ?_; omega) | (refine Leaf.mk ?_; unfold maxLen; omega)
  all_goals
    refine Leaf.mk (ret1 (show (_ : Int) = checkW (k, t, s, key, g, v) from ?_))
  · rw [checkW, if_pos (show 4 < k from h)]
  · have ho : ownW (k, t, s, key, g, v) = false := by
      rw [Bool.eq_false_iff]
      intro hc
      exact (neR6.1 h) (onlyW_iff.2 (ownW_iff.1 hc))
    rw [checkW, if_neg (by dsimp only; omega), if_pos ho]
  all_goals
    have ho : ownW (k, t, s, key, g, v) = true := ownW_iff.2 (onlyW_iff.1 (eqR6.1 ‹(k == (sWOnly.fn ((k, t, s, key, g, v), ())).1.1.1 && _) = true›))
    rw [checkW, if_neg (by dsimp only; omega), if_neg (by rw [ho]; simp)]
    simp only [inB, decide_eq_true_eq]
    repeat' split
    all_goals first | rfl | (exfalso; omega)
end Go.Proofs.Ytcgfolhnoggjfaa

set_option linter.unusedVariables false
set_option linter.unusedSimpArgs false
set_option maxRecDepth 8000
set_option maxHeartbeats 4000000
namespace Go.Proofs.Ytcgfolhnoggjfaa
open Go.Eng
def sWFlag : PSpec := ⟨[.d .bool], [⟨false, [.d (.int .u8)]⟩], fun _ => True, fun x => ((if x.1 = true then 1 else 0, ()), ())⟩
theorem fWFlag : FnOk Try.prog 65 := ⟨_, Try.func65, by decide, rfl⟩
theorem pWFlag : PSound Try.prog 65 sWFlag := by
  refine psound (T := tab) (S := (spOf [])) (keep := k65) (by kernel_rfl) tabOk spNil (by kernel_rfl) Try.func65 (by kernel_rfl) (by decide) fun xs hg hp => ?_
  obtain ⟨g, ⟨⟩⟩ := xs
  change Bool at g
  show vfun tab _ k65 Try.f65 [.b g] [] _
  refine Ev.out ?_
  repeat' (first | ((with_reducible refine Ev.mk ?_); conv => whnf) | (with_reducible refine And.intro ?_ ?_) | (intro h))
  · exact Leaf.mk (ret1 (show (1 : Int) = if g = true then 1 else 0 by rw [if_pos h]))
  · exact Leaf.mk (ret1 (show (0 : Int) = if g = true then 1 else 0 by rw [if_neg (by rw [h]; simp)]))
structure RecOk (r : Rec) : Prop where
  kind : r.1 ≤ 4
  own : OwnW r
  txn : 0 ≤ r.2.1 ∧ r.2.1 ≤ 1099511627776
  ts : 0 ≤ r.2.2.1 ∧ r.2.2.1 ≤ 1099511627776
  key : r.2.2.2.1.length ≤ 16
  val : r.2.2.2.2.2.length ≤ 24
theorem checkW_ok {r : Rec} : checkW r = 0 ↔ RecOk r := by
  rw [checkW]
  constructor
  · intro h
    split at h
    · exact absurd h (by decide)
    split at h
    · exact absurd h (by decide)
    split at h
    · exact absurd h (by decide)
    split at h
    · exact absurd h (by decide)
    rename_i h1 h2 h3 h4
    have h5 := Classical.not_not.1 h3
    unfold inB at h5
    simp only [decide_eq_true_eq] at h5
    exact ⟨by omega, ownW_iff.1 (by simpa using h2), h5.1, h5.2, by omega, by omega⟩
  · intro h
    rw [if_neg (by have := h.kind; omega), if_neg (by rw [ownW_iff.2 h.own]; simp), if_neg (fun hc => hc ⟨decide_eq_true h.txn, decide_eq_true h.ts⟩), if_neg (by have := h.key; have := h.val; omega)]
def putWt (r : Rec) : List Int := if r.1 = 1 then putText r.2.2.2.1 ++ ((if r.2.2.2.2.1 = true then 1 else 0) :: putText r.2.2.2.2.2) else if r.1 = 3 then [] else putSmall r.2.2.1
def putW (r : Rec) : List Int := r.1 :: ((if r.1 = 4 then [] else putSmall r.2.1) ++ putWt r)
def putWF (r : Rec) : List Int × Int := if checkW r = 0 then (putW r, 0) else ([], checkW r)
theorem retW {u v : List Int × Int} (h : u = v) : (some ((u.1, ()), (u.2, ()), ()) : Option ((List Int × Unit) × (Int × Unit) × Unit)) = some ((v.1, ()), (v.2, ()), ()) := by rw [h]
theorem fWPut1i : FnOk Try.prog 62 := ⟨_, Try.func62, by decide, rfl⟩
noncomputable def iWPut1i : Eng.Spec := inlb tab (spOf [(63, sPutSmall.spec (lsOf []))]) k62 Try.f62
theorem pWPut1i : SpecOk Try.prog 62 iWPut1i := inlb_ok tabOk (spCons (pOk pPutSmall fPutSmall (by decide) lsNil) spNil) (by kernel_rfl) Try.func62 (by kernel_rfl)
def sWPut : PSpec := ⟨[.d RecT], [⟨false, [.d BT]⟩, ⟨false, [.d (.int .i64)]⟩], fun x => List.length x.1.2.2.2.1 ≤ 1000000 ∧ List.length x.1.2.2.2.2.2 ≤ 1000000, fun x => (((putWF x.1).1, ()), ((putWF x.1).2, ()), ())⟩
theorem fWPut : FnOk Try.prog 37 := ⟨_, Try.func37, by decide, rfl⟩
theorem pWPut : PSound Try.prog 37 sWPut := by
  refine psound (T := tab) (S := (spOf [(39, sWCheck.spec (lsOf [])), (62, iWPut1i), (63, sPutSmall.spec (lsOf [])), (64, sPutText.spec (lsOf [])), (65, sWFlag.spec (lsOf []))])) (keep := k37) (by kernel_rfl) tabOk (spCons (pOk pWCheck fWCheck (by decide) lsNil) (spCons (.inl ⟨pWPut1i, fWPut1i⟩) (spCons (pOk pPutSmall fPutSmall (by decide) lsNil) (spCons (pOk pPutText fPutText (by decide) lsNil) (spCons (pOk pWFlag fWFlag (by decide) lsNil) spNil))))) (by kernel_rfl) Try.func37 (by kernel_rfl) (by decide) fun xs hg hp => ?_
  obtain ⟨⟨k, t, s, key, g, v⟩, ⟨⟩⟩ := xs
  obtain ⟨⟨hk, -⟩, -⟩ := hg
  change List UInt8 at key
  change List UInt8 at v
  change Int at k t s
  change Bool at g
  have hk := bdu8 hk
  change key.length ≤ 1000000 ∧ v.length ≤ 1000000 at hp
  show vfun tab _ k37 Try.f37 [.agg [.i .u8 k, .i .i64 t, .i .i64 s, .s key, .b g, .s v]] [] _
  refine Ev.out ?_
  repeat' (first | ((with_reducible refine Ev.mk ?_); conv => whnf) | (with_reducible refine And.intro ?_ ?_) | (intro h))
  all_goals (try simp only [decide_eq_true_eq, decide_eq_false_iff_not, beq_iff_eq, bne_iff_ne, beq_eq_false_iff_ne, bne_eq_false_iff_eq, Int.toNat_natCast, ge_iff_le, gt_iff_lt, Bool.not_eq_true', Bool.not_eq_false', Int.not_lt, Int.not_le, ne_eq] at *)
  all_goals (try dsimp only [Ty.den, Ty.dflt, RecT, sWCheck, sPutSmall, sPutText] at *)
  all_goals (try simp only [eq4, ne4, eq3, ne3, eq2, ne2, Prod.eta, List.length_cons, List.length_nil, List.length_append, Nat.zero_add] at *)
  all_goals (try simp (disch := omega) only [wrap64] at *)
  all_goals try first | exact leafDraw (by kernel_rfl) | exact Leaf.mk trivial | (refine Leaf.mk ?_; omega) | (refine Leaf.mk ?_; unfold maxLen; omega)
  all_goals try exact Leaf.mk (show key.length ≤ 1000000 ∧ v.length ≤ 1000000 from hp)
  all_goals first
    | (refine Leaf.mk (retW (u := ([], checkW (k, t, s, key, g, v))) (v := putWF (k, t, s, key, g, v)) ?_)
       rw [putWF, if_neg (show ¬ checkW (k, t, s, key, g, v) = 0 from ‹_›)])
    | skip
  all_goals
    have hc : checkW (k, t, s, key, g, v) = 0 := by assumption
    have ok := checkW_ok.1 hc
    have ht := ok.txn
    have hs := ok.ts
    have hkl := ok.key
    have hvl := ok.val
    dsimp only at ht hs hkl hvl
    have l1 := putSmall_len t
    have l2 := putSmall_len s
    have l3 := putText_len key
    have l4 := putText_len v
    have w1 : IntKind.u64.wrap t = t := wrapu (by omega)
    have w2 : IntKind.u64.wrap s = s := wrapu (by omega)
    try simp only [w1, w2]
  all_goals try first
    | (refine Leaf.mk ?_; omega)
    | (refine Leaf.mk ?_; unfold maxLen; omega)
  all_goals
    refine Leaf.mk (retW (u := (_, 0)) (v := putWF (k, t, s, key, g, v)) ?_)
    rw [putWF, if_pos hc, putW, putWt]
    dsimp only
  all_goals simp_all [sWFlag]
def sWPutR : PSpec := ⟨[.d RecT], [⟨false, [.d BT]⟩, ⟨false, [.d (.int .i64)]⟩], fun x => List.length x.1.2.2.2.1 ≤ 1000000 ∧ List.length x.1.2.2.2.2.2 ≤ 1000000, fun x => (((putWF x.1).1, ()), ((putWF x.1).2, ()), ())⟩
theorem fWPutR : FnOk Try.prog 38 := ⟨_, Try.func38, by decide, rfl⟩
theorem pWPutR : PSound Try.prog 38 sWPutR := by
  refine psound (T := tab) (S := (spOf [(40, sWCheckR.spec (lsOf [])), (66, sPutSmallR.spec (lsOf [])), (67, sPutTextR.spec (lsOf []))])) (keep := k38) (by kernel_rfl) tabOk (spCons (pOk pWCheckR fWCheckR (by decide) lsNil) (spCons (pOk pPutSmallR fPutSmallR (by decide) lsNil) (spCons (pOk pPutTextR fPutTextR (by decide) lsNil) spNil))) (by kernel_rfl) Try.func38 (by kernel_rfl) (by decide) fun xs hg hp => ?_
  obtain ⟨⟨k, t, s, key, g, v⟩, ⟨⟩⟩ := xs
  obtain ⟨⟨hk, -⟩, -⟩ := hg
  change List UInt8 at key
  change List UInt8 at v
  change Int at k t s
  change Bool at g
  have hk := bdu8 hk
  change key.length ≤ 1000000 ∧ v.length ≤ 1000000 at hp
  show vfun tab _ k38 Try.f38 [.agg [.i .u8 k, .i .i64 t, .i .i64 s, .s key, .b g, .s v]] [] _
  refine Ev.out ?_
  repeat' (first | ((with_reducible refine Ev.mk ?_); conv => whnf) | (with_reducible refine And.intro ?_ ?_) | (intro h))
  all_goals (try simp only [decide_eq_true_eq, decide_eq_false_iff_not, beq_iff_eq, bne_iff_ne, beq_eq_false_iff_ne, bne_eq_false_iff_eq, Int.toNat_natCast, ge_iff_le, gt_iff_lt, Bool.not_eq_true', Bool.not_eq_false', Int.not_lt, Int.not_le, ne_eq] at *)
  all_goals (try dsimp only [Ty.den, Ty.dflt, RecT, sWCheckR, sPutSmallR, sPutSmall, sPutTextR, sPutText] at *)
  all_goals (try simp only [eq4, ne4, eq3, ne3, eq2, ne2, Prod.eta, List.length_cons, List.length_nil, List.length_append, Nat.zero_add] at *)
  all_goals (try simp (disch := omega) only [wrap64] at *)
  all_goals try first | exact leafDraw (by kernel_rfl) | exact Leaf.mk trivial | (refine Leaf.mk ?_; omega) | (refine Leaf.mk ?_; unfold maxLen; omega)
  all_goals try exact Leaf.mk (show key.length ≤ 1000000 ∧ v.length ≤ 1000000 from hp)
  all_goals first
    | (refine Leaf.mk (retW (u := ([], checkW (k, t, s, key, g, v))) (v := putWF (k, t, s, key, g, v)) ?_)
       rw [putWF, if_neg (show ¬ checkW (k, t, s, key, g, v) = 0 from ‹_›)])
    | skip
  all_goals
    have hc : checkW (k, t, s, key, g, v) = 0 := by assumption
    have ok := checkW_ok.1 hc
    have ht := ok.txn
    have hs := ok.ts
    have hkl := ok.key
    have hvl := ok.val
    dsimp only at ht hs hkl hvl
    have l1 := putSmall_len t
    have l2 := putSmall_len s
    have l3 := putText_len key
    have l4 := putText_len v
    have w1 : IntKind.u64.wrap t = t := wrapu (by omega)
    have w2 : IntKind.u64.wrap s = s := wrapu (by omega)
    try simp only [w1, w2]
  all_goals try first
    | (refine Leaf.mk ?_; omega)
    | (refine Leaf.mk ?_; unfold maxLen; omega)
  all_goals
    refine Leaf.mk (retW (u := (_, 0)) (v := putWF (k, t, s, key, g, v)) ?_)
    rw [putWF, if_pos hc, putW, putWt]
    dsimp only
  all_goals
    have hk4 : k ≤ 4 := ok.kind
    first
    | (simp_all; done)
    | (have hk3 : k = 3 := by omega
       subst hk3; simp_all)
abbrev RsT : Ty := .slice RecT
end Go.Proofs.Ytcgfolhnoggjfaa

set_option linter.unusedVariables false
set_option linter.unusedSimpArgs false
set_option maxRecDepth 8000
set_option maxHeartbeats 4000000
namespace Go.Proofs.Ytcgfolhnoggjfaa
open Go.Eng
theorem rdText_max (b : List Int) (e : Int) {m : Int} (h : 0 ≤ m) : ((rdText b e m).1.length : Int) ≤ m := by
  unfold rdText
  generalize hmm : (if 0 < m then m else 0) = mm
  have hm : mm ≤ m := by rw [← hmm]; split <;> omega
  split
  · exact h
  split
  · exact h
  split
  · exact h
  · dsimp only; omega
section
variable {r : Rec} {k : Int} {q : List Int}
theorem putW_cons (h : putW r = k :: q) : r.1 = k ∧ q = (if k = 4 then [] else putSmall r.2.1) ++ putWt r := by
  rw [putW] at h
  have h1 := (List.cons.inj h).1
  have h2 := (List.cons.inj h).2
  rw [h1] at h2
  exact ⟨h1, h2.symm⟩
theorem rdS_end {n : Int} (h0 : 0 ≤ n) (h1 : n ≤ 1099511627776) : rdSmall (putSmall n) 0 = (n, [], 0) := by
  have := rdSmall_put h0 h1 []
  rwa [List.append_nil] at this
theorem rd02 (ok : RecOk r) (h : putW r = k :: q) (hk : k = 0 ∨ k = 2) : rdSmall q 0 = (r.2.1, putSmall r.2.2.1, 0) ∧ rdSmall (putSmall r.2.2.1) 0 = (r.2.2.1, [], 0) ∧ (k, r.2.1, r.2.2.1, [], false, []) = r := by
  obtain ⟨h1, rfl⟩ := putW_cons h
  rw [if_neg (by omega), putWt, if_neg (by omega), if_neg (by omega), rdSmall_put ok.txn.1 ok.txn.2, rdS_end ok.ts.1 ok.ts.2]
  refine ⟨rfl, rfl, ?_⟩
  rcases ok.own.wr with h3 | ⟨h3, h4, h5⟩
  · omega
  · obtain ⟨a, b, c, d, e, f⟩ := r
    simp_all
theorem rd3 (ok : RecOk r) (h : putW r = 3 :: q) : rdSmall q 0 = (r.2.1, [], 0) ∧ (3, r.2.1, 0, [], false, []) = r := by
  obtain ⟨h1, rfl⟩ := putW_cons h
  rw [if_neg (by omega), putWt, if_neg (by omega), if_pos h1, List.append_nil, rdS_end ok.txn.1 ok.txn.2]
  refine ⟨rfl, ?_⟩
  have h2 := ok.own.ts
  rcases ok.own.wr with h3 | ⟨h3, h4, h5⟩
  · omega
  · obtain ⟨a, b, c, d, e, f⟩ := r
    simp_all
theorem rd4 (ok : RecOk r) (h : putW r = 4 :: q) : rdSmall q 0 = (r.2.2.1, [], 0) ∧ (4, 0, r.2.2.1, [], false, []) = r := by
  obtain ⟨h1, rfl⟩ := putW_cons h
  rw [if_pos rfl, putWt, if_neg (by omega), if_neg (by omega), List.nil_append, rdS_end ok.ts.1 ok.ts.2]
  refine ⟨rfl, ?_⟩
  have h2 := ok.own.txn h1
  rcases ok.own.wr with h3 | ⟨h3, h4, h5⟩
  · omega
  · obtain ⟨a, b, c, d, e, f⟩ := r
    simp_all
theorem rd1 (ok : RecOk r) (h : putW r = 1 :: q) : rdSmall q 0 = (r.2.1, putText r.2.2.2.1 ++ ((if r.2.2.2.2.1 = true then 1 else 0) :: putText r.2.2.2.2.2), 0) ∧
    rdText (putText r.2.2.2.1 ++ ((if r.2.2.2.2.1 = true then 1 else 0) :: putText r.2.2.2.2.2)) 0 16 = (r.2.2.2.1, (if r.2.2.2.2.1 = true then 1 else 0) :: putText r.2.2.2.2.2, 0) ∧
    rdText (putText r.2.2.2.2.2) 0 24 = (r.2.2.2.2.2, [], 0) ∧ (1, r.2.1, 0, r.2.2.2.1, r.2.2.2.2.1, r.2.2.2.2.2) = r := by
  obtain ⟨h1, rfl⟩ := putW_cons h
  rw [if_neg (by omega), putWt, if_pos h1, rdSmall_put ok.txn.1 ok.txn.2, rdText_put (by have := ok.key; omega)]
  have hv := rdText_put (m := 24) (k := r.2.2.2.2.2) (by have := ok.val; omega) []
  rw [List.append_nil] at hv
  rw [hv]
  refine ⟨rfl, rfl, rfl, ?_⟩
  have h2 := ok.own.ts
  obtain ⟨a, b, c, d, e, f⟩ := r
  simp_all
theorem fin1 (a3 : rdText (putText r.2.2.2.2.2) 0 24 = (r.2.2.2.2.2, [], 0)) (a4 : (1, r.2.1, 0, r.2.2.2.1, r.2.2.2.2.1, r.2.2.2.2.2) = r) :
    ((1, r.2.1, 0, r.2.2.2.1, ((if r.2.2.2.2.1 = true then (1 : Int) else 0) :: putText r.2.2.2.2.2).getD 0 0 == 1, (rdText (List.drop (Int.toNat 1) ((if r.2.2.2.2.1 = true then (1 : Int) else 0) :: putText r.2.2.2.2.2)) 0 24).1) : Rec) = r := by
  rw [show Int.toNat 1 = 1 from rfl, List.drop_one, List.tail_cons, a3]
  refine Eq.trans ?_ a4
  cases r.2.2.2.2.1 <;> rfl
end
def readW (k : Int) (q : List Int) : Rec :=
  if k = 0 ∨ k = 2 then (k, (rdSmall q 0).1, (rdSmall (rdSmall q 0).2.1 0).1, [], false, [])
  else if k = 3 then (3, (rdSmall q 0).1, 0, [], false, [])
  else if k = 4 then (4, 0, (rdSmall q 0).1, [], false, [])
  else (1, (rdSmall q 0).1, 0, (rdText (rdSmall q 0).2.1 0 16).1, decide ((rdText (rdSmall q 0).2.1 0 16).2.1.getD 0 0 = 1), (rdText ((rdText (rdSmall q 0).2.1 0 16).2.1.drop 1) 0 24).1)
def getW : List Int → Rec × Int
  | [] => (rec0, 4)
  | k :: q => if checkW (readW k q) = 0 ∧ putW (readW k q) = k :: q then (readW k q, 0) else (rec0, 4)
theorem flag_dec (g : Bool) (l : List Int) : decide (((if g = true then (1 : Int) else 0) :: l).getD 0 0 = 1) = g := by cases g <;> simp
theorem readW_put {r : Rec} {k : Int} {q : List Int} (hc : checkW r = 0) (h0 : 0 ≤ r.1) (h : putW r = k :: q) : readW k q = r := by
  have ok := checkW_ok.1 hc
  have h1 := (putW_cons h).1
  have h4 := ok.kind
  rw [readW]
  split
  · rename_i hk
    obtain ⟨a, b, c⟩ := rd02 ok h hk
    rw [a]; dsimp only; rw [b]; exact c
  split
  · rename_i hk; subst hk
    obtain ⟨a, c⟩ := rd3 ok h
    rw [a]; exact c
  split
  · rename_i hk; subst hk
    obtain ⟨a, c⟩ := rd4 ok h
    rw [a]; exact c
  · rename_i k1 k2 k3
    have hk : k = 1 := by omega
    subst hk
    obtain ⟨a, b, c, d⟩ := rd1 ok h
    rw [a]; dsimp only; rw [b]; dsimp only
    rw [flag_dec, List.drop_one, List.tail_cons, c]; exact d
theorem getW_put {r : Rec} {b : List Int} (hc : checkW r = 0) (h0 : 0 ≤ r.1) (h : putW r = b) : getW b = (r, 0) := by
  cases b with
  | nil => rw [putW] at h; exact absurd h (by simp)
  | cons k q => rw [getW, readW_put hc h0 h, if_pos ⟨hc, h⟩]
theorem getW_not {b : List Int} (h : ∀ r, checkW r = 0 → putW r ≠ b) : getW b = (rec0, 4) := by
  cases b with
  | nil => rfl
  | cons k q => rw [getW, if_neg (fun hc => h _ hc.1 hc.2)]
theorem isB_W {r : Rec} (h0 : 0 ≤ r.1) (ok : RecOk r) : isB (putW r) := by
  intro x hx
  rw [putW] at hx
  rcases List.mem_cons.1 hx with rfl | hx
  · have := ok.kind; omega
  have hn : isB ([] : List Int) := fun x hx => by simp at hx
  refine isB_append ?_ ?_ x hx
  · split
    · exact hn
    · exact isB_small _
  · rw [putWt]
    split
    · refine isB_append (isB_put _) fun y hy => ?_
      rcases List.mem_cons.1 hy with rfl | hy
      · split <;> omega
      · exact isB_put _ y hy
    · split
      · exact hn
      · exact isB_small _
theorem putWF_zero {r : Rec} (h : (putWF r).2 = 0) : checkW r = 0 ∧ (putWF r).1 = putW r := by
  unfold putWF at h ⊢
  split at h
  · rename_i hc; rw [if_pos hc]; exact ⟨hc, rfl⟩
  · rename_i hc; exact absurd h hc
def FinW (b : List Int) (x : Rec) : Prop := ∀ r, checkW r = 0 → putW r = b → x = r
theorem FinW.bad {b : List Int} {x : Rec} (h : FinW b x) (hp : ¬ (putWF x).2 = 0) : getW b = (rec0, 4) := getW_not fun r hc hb => by
  have := h r hc hb
  subst this
  exact hp (by rw [putWF, if_pos hc])
theorem FinW.nos {b : List Int} {x : Rec} (h : FinW b x) (hp : (putWF x).2 = 0) (hn : ¬ strOfBytes (putWF x).1 = strOfBytes b) : getW b = (rec0, 4) := getW_not fun r hc hb => by
  have := h r hc hb
  subst this
  rw [(putWF_zero hp).2, hb] at hn
  exact hn rfl
theorem FinW.yes {b : List Int} {x : Rec} (hB : isB b) (h0 : 0 ≤ x.1) (hp : (putWF x).2 = 0) (hn : strOfBytes (putWF x).1 = strOfBytes b) : getW b = (x, 0) := by
  obtain ⟨h1, h2⟩ := putWF_zero hp
  rw [h2] at hn
  exact getW_put h1 h0 (str_inj (isB_W h0 (checkW_ok.1 h1)) hB hn)
theorem retGw {u v : Rec × Int} (h : u = v) : (some ((u.1, ()), (u.2, ()), ()) : Option ((Rec × Unit) × (Int × Unit) × Unit)) = some ((v.1, ()), (v.2, ()), ()) := by rw [h]
def sWGet : PSpec := ⟨[.d BT], [⟨true, [.d RecT]⟩, ⟨false, [.d (.int .i64)]⟩], fun x => List.length (α := Int) x.1 ≤ 50000, fun x => (((getW x.1).1, ()), ((getW x.1).2, ()), ())⟩
end Go.Proofs.Ytcgfolhnoggjfaa

namespace Go.Proofs.Ytcgfolhnoggjfaa
open Go.Proofs Go.Shelf
def Try.lays189_ren : Go.Shelf.Ren := ⟨fun | 189 => 93 | 125 => 82 | 257 => 110 | 128 => 104 | 129 => 105 | 294 => 118 | 295 => 119 | 296 => 120 | 297 => 121 | 298 => 122 | 299 => 123 | 216 => 124 | 300 => 125 | 301 => 126 | 328 => 128 | 329 => 112 | 330 => 113 | 331 => 129 | 332 => 130 | 215 => 131 | 343 => 132 | n => n, fun | 28 => 71 | 3 => 3 | 46 => 118 | 0 => 0 | 51 => 143 | 53 => 93 | 4 => 4 | 183 => 135 | 182 => 134 | 131 => 140 | 5 => 5 | 9 => 9 | 218 => 148 | 222 => 152 | 228 => 161 | 229 => 90 | n => n, fun | n => n⟩
theorem lays189 : Go.Proofs.Lays.n189 Try.prog Try.lays189_ren := {
  mixed := by kernel_rfl
  f125 := Try.func82.trans (congrArg some (by kernel_rfl))
  f128 := Try.func104.trans (congrArg some (by kernel_rfl))
  f129 := Try.func105.trans (congrArg some (by kernel_rfl))
  f189 := Try.func93.trans (congrArg some (by kernel_rfl))
  f215 := Try.func131.trans (congrArg some (by kernel_rfl))
  f216 := Try.func124.trans (congrArg some (by kernel_rfl))
  f257 := Try.func110.trans (congrArg some (by kernel_rfl))
  f294 := Try.func118.trans (congrArg some (by kernel_rfl))
  f295 := Try.func119.trans (congrArg some (by kernel_rfl))
  f296 := Try.func120.trans (congrArg some (by kernel_rfl))
  f297 := Try.func121.trans (congrArg some (by kernel_rfl))
  f298 := Try.func122.trans (congrArg some (by kernel_rfl))
  f299 := Try.func123.trans (congrArg some (by kernel_rfl))
  f300 := Try.func125.trans (congrArg some (by kernel_rfl))
  f301 := Try.func126.trans (congrArg some (by kernel_rfl))
  f328 := Try.func128.trans (congrArg some (by kernel_rfl))
  f329 := Try.func112.trans (congrArg some (by kernel_rfl))
  f330 := Try.func113.trans (congrArg some (by kernel_rfl))
  f331 := Try.func129.trans (congrArg some (by kernel_rfl))
  f332 := Try.func130.trans (congrArg some (by kernel_rfl))
  f343 := Try.func132.trans (congrArg some (by kernel_rfl))
  t0 := Try.underlying0
  a0 := Try.isAgg0
  z0 := Try.sizeOf0
  v0 := Try.zeroValue0
  t3 := Try.underlying3
  a3 := Try.isAgg3
  z3 := Try.sizeOf3
  v3 := Try.zeroValue3
  t4 := Try.underlying4
  a4 := Try.isAgg4
  z4 := Try.sizeOf4
  v4 := Try.zeroValue4
  t5 := Try.underlying5
  a5 := Try.isAgg5
  z5 := Try.sizeOf5
  v5 := Try.zeroValue5
  t9 := Try.underlying9
  a9 := Try.isAgg9
  z9 := Try.sizeOf9
  v9 := Try.zeroValue9
  t28 := Try.underlying71
  a28 := Try.isAgg71
  z28 := Try.sizeOf71
  v28 := Try.zeroValue71
  t46 := Try.underlying118
  a46 := Try.isAgg118
  z46 := Try.sizeOf118
  v46 := Try.zeroValue118
  t51 := Try.underlying143
  a51 := Try.isAgg143
  z51 := Try.sizeOf143
  v51 := Try.zeroValue143
  t53 := Try.underlying93
  a53 := Try.isAgg93
  z53 := Try.sizeOf93
  v53 := Try.zeroValue93
  t131 := Try.underlying140
  a131 := Try.isAgg140
  z131 := Try.sizeOf140
  v131 := Try.zeroValue140
  t182 := Try.underlying134
  a182 := Try.isAgg134
  z182 := Try.sizeOf134
  v182 := Try.zeroValue134
  t183 := Try.underlying135
  a183 := Try.isAgg135
  z183 := Try.sizeOf135
  v183 := Try.zeroValue135
  t218 := Try.underlying148
  a218 := Try.isAgg148
  z218 := Try.sizeOf148
  v218 := Try.zeroValue148
  t222 := Try.underlying152
  a222 := Try.isAgg152
  z222 := Try.sizeOf152
  v222 := Try.zeroValue152
  t228 := Try.underlying161
  a228 := Try.isAgg161
  z228 := Try.sizeOf161
  v228 := Try.zeroValue161
  t229 := Try.underlying90
  a229 := Try.isAgg90
  z229 := Try.sizeOf90
  v229 := Try.zeroValue90 }
def layKeys_ren : Go.Shelf.Ren := ⟨fun | 7 => 80 | 10 => 94 | n => n, fun | 23 => 111 | 26 => 3 | 3 => 4 | 28 => 114 | 0 => 0 | 27 => 113 | 33 => 97 | 4 => 4 | n => n, fun | n => n⟩
theorem layKeys : Go.Proofs.SlLaysZI.n7 Try.prog layKeys_ren := {
  mixed := by kernel_rfl
  f7 := ⟨Try.f80.name, by decide, Try.func80.trans (congrArg some (by kernel_rfl))⟩
  f10 := ⟨Try.f94.name, by decide, Try.func94.trans (congrArg some (by kernel_rfl))⟩
  t0 := Try.underlying0
  a0 := Try.isAgg0
  z0 := Try.sizeOf0
  v0 := Try.zeroValue0
  t4 := Try.underlying4
  a4 := Try.isAgg4
  z4 := Try.sizeOf4
  v4 := Try.zeroValue4
  t23 := Try.underlying111
  a23 := Try.isAgg111
  z23 := Try.sizeOf111
  v23 := Try.zeroValue111
  t26 := Try.underlying3
  a26 := Try.isAgg3
  z26 := Try.sizeOf3
  v26 := Try.zeroValue3
  t27 := Try.underlying113
  a27 := Try.isAgg113
  z27 := Try.sizeOf113
  v27 := Try.zeroValue113
  t28 := Try.underlying114
  a28 := Try.isAgg114
  z28 := Try.sizeOf114
  v28 := Try.zeroValue114
  t33 := Try.underlying97
  a33 := Try.isAgg97
  z33 := Try.sizeOf97
  v33 := Try.zeroValue97 }
def laySorted_ren : Go.Shelf.Ren := ⟨fun | 6 => 79 | 8 => 92 | 9 => 93 | 11 => 109 | 13 => 82 | 12 => 110 | 23 => 104 | 24 => 105 | 14 => 118 | 15 => 119 | 16 => 120 | 17 => 121 | 18 => 122 | 19 => 123 | 20 => 124 | 21 => 125 | 22 => 126 | 25 => 128 | 26 => 112 | 27 => 113 | 28 => 129 | 29 => 130 | 30 => 131 | 31 => 132 | n => n, fun | 26 => 3 | 28 => 114 | 24 => 71 | 0 => 0 | 3 => 3 | 37 => 118 | 48 => 143 | 50 => 93 | 4 => 4 | 40 => 135 | 39 => 134 | 45 => 140 | 5 => 5 | 9 => 9 | 51 => 148 | 55 => 152 | 57 => 161 | 58 => 90 | 33 => 97 | n => n, fun | n => n⟩
theorem laySorted : Go.Proofs.SlLaysZI.n6 Try.prog laySorted_ren := {
  mixed := by kernel_rfl
  f6 := ⟨Try.f79.name, by decide, Try.func79.trans (congrArg some (by kernel_rfl))⟩
  f8 := ⟨Try.f92.name, by decide, Try.func92.trans (congrArg some (by kernel_rfl))⟩
  f11 := ⟨Try.f109.name, by decide, Try.func109.trans (congrArg some (by kernel_rfl))⟩
  t0 := Try.underlying0
  a0 := Try.isAgg0
  z0 := Try.sizeOf0
  v0 := Try.zeroValue0
  t24 := Try.underlying71
  a24 := Try.isAgg71
  z24 := Try.sizeOf71
  v24 := Try.zeroValue71
  t26 := Try.underlying3
  a26 := Try.isAgg3
  z26 := Try.sizeOf3
  v26 := Try.zeroValue3
  t28 := Try.underlying114
  a28 := Try.isAgg114
  z28 := Try.sizeOf114
  v28 := Try.zeroValue114
  i26 := by kernel_rfl }
end Go.Proofs.Ytcgfolhnoggjfaa

set_option linter.unusedVariables false
set_option linter.unusedSimpArgs false
set_option maxRecDepth 8000
set_option maxHeartbeats 4000000
namespace Go.Proofs.Ytcgfolhnoggjfaa
open Go.Eng
theorem cutk {T q : List Int} {k : Int} (h : T <:+ q) (hl : q.length ≤ 50000) : (List.take (q.length + 1) (k :: q)).drop (IntKind.i64.wrap (((q.length + 1 : Nat) : Int) - ((T.length : Nat) : Int))).toNat = T := by
  have h1 := h.length_le
  rw [wrap64 (by omega), show ((((q.length + 1 : Nat) : Int) - ((T.length : Nat) : Int))).toNat = q.length - T.length + 1 by omega]
  have h2 : List.take (q.length + 1) (k :: q) = k :: q := List.take_of_length_le (by simp)
  rw [h2, List.drop_succ_cons]
  exact (List.suffix_iff_eq_drop.1 h).symm
theorem fWGet : FnOk Try.prog 41 := ⟨_, Try.func41, by decide, rfl⟩
theorem pWGet : PSound Try.prog 41 sWGet := by
  refine psound (T := tab) (S := (spOf [(71, sNew.spec (lsOf [])), (72, sSmall.spec), (73, sText.spec), (74, sLeft.spec), (75, sDone.spec), (37, sWPut.spec (lsOf [])), (76, sBEqual.spec (lsOf []))])) (keep := k41) (by kernel_rfl) tabOk (spCons (.inl ⟨nOk lsNil pNew, fNew⟩) (spCons (.inl ⟨pSmall, fSmall⟩) (spCons (.inl ⟨pText, fText⟩) (spCons (.inl ⟨pLeft, fLeft⟩) (spCons (.inl ⟨pDone, fDone⟩) (spCons (pOk pWPut fWPut (by decide) lsNil) (spCons (pOk pBEqual fBEqual (by decide) lsNil) spNil))))))) (by kernel_rfl) Try.func41 (by kernel_rfl) (by decide) fun xs hg hp => ?_
  obtain ⟨b, ⟨⟩⟩ := xs
  obtain ⟨⟨-, hx⟩, -⟩ := hg
  change List Int at b
  change b.length ≤ 50000 at hp
  have hB : isB b := isB_good hx
  change ∀ x ∈ b, Eng.Good (.int .u8) x at hx
  cases b with
  | nil =>
  show vfun tab _ k41 Try.f41 [.sl (.int .u8) []] [] _
  refine Ev.out ?_
  repeat' (first | ((with_reducible refine Ev.mk ?_); conv => whnf) | (with_reducible refine And.intro ?_ ?_) | (intro h))
  all_goals (try simp only [decide_eq_true_eq, decide_eq_false_iff_not, beq_iff_eq, bne_iff_ne, beq_eq_false_iff_ne, bne_eq_false_iff_eq, Int.toNat_natCast, ge_iff_le, gt_iff_lt, Bool.not_eq_true', Bool.not_eq_false', Int.not_lt, Int.not_le, ne_eq] at *)
  all_goals (try dsimp only [Ty.den, Ty.dflt, RecT] at *)
  all_goals (try simp only [eq4, ne4, eq3, ne3, eq2, ne2, Prod.eta, List.length_cons, List.length_nil, List.length_append, Nat.zero_add] at *)
  all_goals (try simp (disch := omega) only [wrap64] at *)
  all_goals try first | exact leafDraw (by kernel_rfl) | exact Leaf.mk trivial | (refine Leaf.mk ?_; omega) | (refine Leaf.mk ?_; unfold maxLen; omega)
  all_goals first
    | exact Leaf.mk (retGw (u := (rec0, 4)) (v := getW []) rfl)
    | exact absurd ‹¬ ((([] : List Int).length : Int) = 0)› (by decide)
    | skip
  | cons k q =>
  show vfun tab _ k41 Try.f41 [.sl (.int .u8) (k :: q)] [] _
  refine Ev.out ?_
  repeat' (first | ((with_reducible refine Ev.mk ?_); conv => whnf) | (with_reducible refine And.intro ?_ ?_) | (intro h))
  all_goals (try simp only [decide_eq_true_eq, decide_eq_false_iff_not, beq_iff_eq, bne_iff_ne, beq_eq_false_iff_ne, bne_eq_false_iff_eq, Int.toNat_natCast, ge_iff_le, gt_iff_lt, Bool.not_eq_true', Bool.not_eq_false', Int.not_lt, Int.not_le, ne_eq] at *)
  all_goals (try dsimp only [Ty.den, Ty.dflt, RecT, sNew, sSmall, sText, sLeft, sDone, sWPut] at *)
  all_goals (try simp only [eq4, ne4, eq3, ne3, eq2, ne2, Prod.eta, List.length_cons, List.length_nil, List.length_append, Nat.zero_add] at *)
  all_goals (try simp (disch := omega) only [wrap64] at *)
  all_goals try first | exact leafDraw (by kernel_rfl) | exact Leaf.mk trivial | (refine Leaf.mk ?_; omega) | (refine Leaf.mk ?_; unfold maxLen; omega)
  all_goals
    have hc1 : (List.take (q.length + 1) (k :: q)).drop (Int.toNat 1) = q := by simp
    have hk0 : 0 ≤ k := (hB k List.mem_cons_self).1
    have hql : q.length + 1 ≤ 50000 := hp
    have hs1 := suf_len (rdSmall_suf q 0)
    try simp only [hc1, List.getD_cons_zero, Int.toNat_zero, List.take_length] at *
  all_goals
    have hs2 := suf_len (rdText_suf (rdSmall q 0).2.1 (rdSmall q 0).2.2 16)
    have hm1 := rdText_max (rdSmall q 0).2.1 (rdSmall q 0).2.2 (m := 16) (by decide)
    have hm2 := fun l e => rdText_max l e (m := 24) (by decide)
  all_goals
    have hT := (rdText_suf (rdSmall q 0).2.1 (rdSmall q 0).2.2 16).trans (rdSmall_suf q 0)
    have hcut := cutk (k := k) hT (by omega)
    have hTl := suf_len hT
    try simp only [hcut] at *
    try rw [wrap64 (n := ((q.length + 1 : Nat) : Int) - (((rdText (rdSmall q 0).2.1 (rdSmall q 0).2.2 16).2.1.length : Nat) : Int)) (by omega)]
  all_goals try (refine Leaf.mk ?_; first | omega | (rw [List.length_drop]; omega))
  all_goals try exact Leaf.mk ⟨by omega, Nat.le_trans (Int.ofNat_le.1 (hm2 _ _)) (by decide)⟩
  all_goals try exact Leaf.mk ⟨by simp, by simp⟩
  all_goals
    have hBE : ∀ y, (sBEqual.fn (k :: q, y, ())).1.1 = (strOfBytes (k :: q) == strOfBytes y) := fun y => rfl
    try simp only [hBE, beq_iff_eq, beq_eq_false_iff_ne] at *
  all_goals first
    | refine Leaf.mk (retGw (u := (rec0, 4)) (v := getW (k :: q)) (FinW.bad ?_ ‹¬ (putWF _).2 = 0›).symm)
    | refine Leaf.mk (retGw (u := (rec0, 4)) (v := getW (k :: q)) (FinW.nos ?_ ‹(putWF _).2 = 0› ‹¬ strOfBytes _ = _›).symm)
    | refine Leaf.mk (retGw (u := (rec0, 4)) (v := getW (k :: q)) (FinW.nos ?_ ‹(putWF _).2 = 0› (Ne.symm ‹strOfBytes (k :: q) ≠ _›)).symm)
    | exact Leaf.mk (retGw (u := (_, 0)) (v := getW (k :: q)) (FinW.yes hB hk0 ‹(putWF _).2 = 0› (Eq.symm ‹strOfBytes (k :: q) = _›)).symm)
    | exact Leaf.mk (retGw (u := (_, 0)) (v := getW (k :: q)) (FinW.yes hB hk0 ‹(putWF _).2 = 0› ‹strOfBytes _ = _›).symm)
  all_goals
    intro r hc hb
    have ok := checkW_ok.1 hc
    have hr4 := ok.kind
    have hrk := (putW_cons hb).1
  all_goals first
    | (exfalso; omega)
    | (obtain ⟨a1, a2, a3⟩ := rd02 ok hb (by omega)
       simp only [a1, a2]
       exact a3)
    | (have hk : k = 3 := by omega
       subst hk
       obtain ⟨a1, a3⟩ := rd3 ok hb
       simp only [a1]
       exact a3)
    | (have hk : k = 4 := by omega
       subst hk
       obtain ⟨a1, a3⟩ := rd4 ok hb
       simp only [a1]
       exact a3)
    | (have hk : k = 1 := by omega
       subst hk
       obtain ⟨a1, a2, a3, a4⟩ := rd1 ok hb
       simp only [a1, a2] at *
       first
       | exact fin1 a3 a4
       | (exfalso; simp only [List.length_cons] at *; omega)
       | exact absurd trivial ‹¬ True›
       | (exfalso; have hh := ‹¬ (if _ then _ else _) = (4 : Int)›; simp at hh; done)
       | skip
       | skip)
  all_goals skip
end Go.Proofs.Ytcgfolhnoggjfaa

set_option linter.unusedVariables false
set_option linter.unusedSimpArgs false
set_option maxRecDepth 8000
set_option maxHeartbeats 4000000
namespace Go.Proofs.Ytcgfolhnoggjfaa
open Go.Eng
open Go.Proofs Go.Shelf
abbrev MpI : Type := List (Int × Bool)
def stepL (m : MpI) (r : Rec) : MpI := if r.1 = 4 then m else if r.1 = 2 ∨ r.1 = 3 then mapDel (.int .i64) (α := Bool) r.2.1 m else mapPut (.int .i64) (α := Bool) r.2.1 true m
def mapL (l : List Rec) : MpI := l.foldl stepL []
def keysM (m : MpI) : List Int := m.map fun p => p.1
def insZ (x : Int) : List Int → List Int
  | [] => [x]
  | y :: r => if y < x then y :: insZ x r else x :: y :: r
def isrt (l : List Int) : List Int := l.foldl (fun o x => insZ x o) []
def liveF (l : List Rec) : List Int := isrt (keysM (mapL l))
theorem insZ_perm (x : Int) : ∀ l : List Int, (insZ x l).Perm (x :: l)
  | [] => List.Perm.refl _
  | y :: r => by
    rw [insZ]; split
    · exact ((insZ_perm x r).cons y).trans (List.Perm.swap x y r)
    · exact List.Perm.refl _
theorem isrt_perm0 : ∀ (l o : List Int), (l.foldl (fun o x => insZ x o) o).Perm (l ++ o)
  | [], o => List.Perm.refl _
  | x :: r, o => by
    rw [List.foldl_cons]
    refine (isrt_perm0 r (insZ x o)).trans ?_
    refine ((insZ_perm x o).append_left r).trans ?_
    rw [List.cons_append]
    exact List.perm_middle
theorem isrt_perm (l : List Int) : (isrt l).Perm l := by have := isrt_perm0 l []; rwa [List.append_nil] at this
theorem insZ_sorted (x : Int) : ∀ l : List Int, l.Pairwise (· ≤ ·) → (insZ x l).Pairwise (· ≤ ·)
  | [], _ => List.pairwise_singleton _ _
  | y :: r, h => by
    rw [List.pairwise_cons] at h
    rw [insZ]; split
    · rename_i hy
      rw [List.pairwise_cons]
      refine ⟨fun z hz => ?_, insZ_sorted x r h.2⟩
      rcases List.mem_cons.1 ((insZ_perm x r).mem_iff.1 hz) with rfl | hz
      · omega
      · exact h.1 z hz
    · rename_i hy
      rw [List.pairwise_cons, List.pairwise_cons]
      refine ⟨fun z hz => ?_, h⟩
      rcases List.mem_cons.1 hz with rfl | hz
      · omega
      · have := h.1 z hz; omega
theorem isrt_sorted0 : ∀ (l o : List Int), o.Pairwise (· ≤ ·) → (l.foldl (fun o x => insZ x o) o).Pairwise (· ≤ ·)
  | [], _, h => h
  | x :: r, o, h => isrt_sorted0 r (insZ x o) (insZ_sorted x o h)
theorem isrt_sorted (l : List Int) : (isrt l).Pairwise (· ≤ ·) := isrt_sorted0 l [] List.Pairwise.nil
theorem sorted_eq {a b : List Int} (hp : a.Perm b) (ha : a.Pairwise (· ≤ ·)) (hb : b.Pairwise (· ≤ ·)) : a = b :=
  List.Perm.eq_of_pairwise (le := fun a b => a ≤ b) (fun a b _ _ h1 h2 => Int.le_antisymm h1 h2) ha hb hp
theorem sortInt_isrt (l : List Int) : sortInt l = isrt l := by
  refine sorted_eq ((List.mergeSort_perm _ _).trans (isrt_perm l).symm) ?_ (isrt_sorted l)
  have := List.pairwise_mergeSort (le := fun x y : Int => decide (x ≤ y)) (fun a b c h1 h2 => by simp only [decide_eq_true_eq] at *; omega) (fun a b => by simp only [Bool.or_eq_true, decide_eq_true_eq]; omega) l
  exact this.imp fun {a b} h => by simpa using h
theorem put_keys (t : Int) : ∀ m : MpI, keysM (mapPut (.int .i64) (α := Bool) t true m) = if t ∈ keysM m then keysM m else keysM m ++ [t]
  | [] => by simp [mapPut, keysM]
  | (b, u) :: r => by
    have ih := put_keys t r
    simp only [mapPut, keyEq, beq_iff_eq]
    by_cases h : t = b
    · subst h; simp [keysM]
    · rw [if_neg h]
      show b :: keysM (mapPut (.int .i64) (α := Bool) t true r) = _
      rw [ih]
      by_cases hm : t ∈ keysM r
      · rw [if_pos hm, if_pos (show t ∈ keysM ((b, u) :: r) from List.mem_cons_of_mem _ hm)]; rfl
      · rw [if_neg hm, if_neg (show ¬ t ∈ keysM ((b, u) :: r) from fun hc => by rcases List.mem_cons.1 hc with hc | hc; exact h hc; exact hm hc)]; rfl
theorem del_keys (t : Int) : ∀ m : MpI, keysM (mapDel (.int .i64) (α := Bool) t m) = (keysM m).erase t
  | [] => rfl
  | (b, u) :: r => by
    have ih := del_keys t r
    simp only [mapDel, keyEq, beq_iff_eq]
    by_cases h : t = b
    · subst h; simp [keysM]
    · rw [if_neg h]
      show b :: keysM (mapDel (.int .i64) (α := Bool) t r) = (b :: keysM r).erase t
      rw [ih, List.erase_cons_tail (by simpa using fun hc => h hc.symm)]
def relT (t : Int) (r : Rec) : Prop := r.1 ≠ 4 ∧ r.2.1 = t
instance (t : Int) (r : Rec) : Decidable (relT t r) := by unfold relT; infer_instance
def lastB (r : Rec) (l : List Rec) : Prop := (r.1 ≠ 4 ∧ r.1 ≠ 2 ∧ r.1 ≠ 3) ∧ ∀ x ∈ l, ¬ relT r.2.1 x
instance (r : Rec) (l : List Rec) : Decidable (lastB r l) := by unfold lastB; infer_instance
theorem mapL_len : ∀ (l : List Rec) (m : MpI), (l.foldl stepL m).length ≤ m.length + l.length
  | [], m => Nat.le_refl _
  | r :: l, m => by
    have h1 := mapL_len l (stepL m r)
    have h2 : (stepL m r).length ≤ m.length + 1 := by
      have e : ∀ x : MpI, x.length = (keysM x).length := fun x => by simp [keysM]
      rw [e (stepL m r), stepL]
      split
      · rw [← e]; omega
      split
      · rw [del_keys, e m]
        have := List.length_erase_le (a := r.2.1) (l := keysM m)
        omega
      · rw [put_keys, e m]; split
        · omega
        · simp
    rw [List.foldl_cons, List.length_cons]; omega
theorem fMKeys : FnOk Try.prog 80 := ⟨_, Try.func80, by decide, rfl⟩
noncomputable def iMKeys : Eng.Spec := inl tab (spOf []) k80 Try.f80
theorem pMKeys : SpecOk Try.prog 80 iMKeys := inl_ok tabOk spNil (by kernel_rfl) Try.func80 (by kernel_rfl)
theorem fSortedK : FnOk Try.prog 79 := ⟨_, Try.func79, by decide, rfl⟩
noncomputable def iSortedK : Eng.Spec := sortedKeys 94 3
theorem sortsSortedK (m : Nat) : AnyZI.SortsIn Try.prog laySorted_ren Fence.wide m := ⟨fun blk off cap ss W hH hblk hsz => callsIn_wide.2 (Any.slices_Sort_int lays189 blk off cap ss W hH hblk hsz), fun p cap W => callsIn_wide.2 (Any.slices_Sort_int_none lays189 p cap W)⟩
theorem pSortedK : SpecOk Try.prog 79 iSortedK := sortedKeys_ok { layKeys with } laySorted sortsSortedK (tb := 4) (by kernel_rfl) (enters_of Try.func93 (by kernel_rfl) rfl) (enters_of Try.func94 (by kernel_rfl) rfl) rfl rfl rfl rfl
def sWLive : PSpec := ⟨[.d RsT], [⟨false, [.o 3 (.int .i64)]⟩], fun x => List.length x.1 ≤ 1000, fun x => ((liveF x.1, ()), ())⟩
theorem fWLive : FnOk Try.prog 43 := ⟨_, Try.func43, by decide, rfl⟩
theorem pWLive : PSound Try.prog 43 sWLive := by
  refine psound (T := tab) (S := (spOf [(80, iMKeys), (79, iSortedK)])) (keep := k43) (by kernel_rfl) tabOk (spCons (.inl ⟨pMKeys, fMKeys⟩) (spCons (.inl ⟨pSortedK, fSortedK⟩) spNil)) (by kernel_rfl) Try.func43 (by kernel_rfl) (by decide) fun xs hg hp => ?_
  obtain ⟨l, ⟨⟩⟩ := xs
  change List Rec at l
  change l.length ≤ 1000 at hp
  clear hg
  show vfun tab _ k43 Try.f43 [.sl RecT l] [] _
  refine Ev.out ?_
  repeat' (first | ((with_reducible refine Ev.mk ?_); conv => whnf) | (with_reducible refine And.intro ?_ ?_) | (intro h))
  all_goals (try simp only [decide_eq_true_eq, decide_eq_false_iff_not, beq_iff_eq, bne_iff_ne, beq_eq_false_iff_ne, bne_eq_false_iff_eq, Int.toNat_natCast, ge_iff_le, gt_iff_lt, Bool.not_eq_true', Bool.not_eq_false', Int.not_lt, Int.not_le, ne_eq] at *)
  all_goals (try dsimp only [Ty.den, Ty.dflt, RecT] at *)
  all_goals (try simp only [eq4, ne4, eq3, ne3, eq2, ne2, Prod.eta, List.length_cons, List.length_nil, List.length_append, Nat.zero_add] at *)
  all_goals (try simp (disch := omega) only [wrap64] at *)
  all_goals try first | exact leafDraw (by kernel_rfl) | exact Leaf.mk trivial | (refine Leaf.mk ?_; omega) | (refine Leaf.mk ?_; unfold maxLen; omega)
  refine LoopVC.on (fun i : Nat => [(9, .i .i64 i)]) (fun i => [(0, .map (.int .i64) .bool (mapL (l.take i)))]) (fun i => i ≤ l.length) (fun i => l.length - i) 0 rfl (by omega) ?_
  intro i hi
  repeat' (first | ((with_reducible refine Ev.mk ?_); conv => whnf) | (with_reducible refine And.intro ?_ ?_) | (intro h))
  all_goals (try simp only [decide_eq_true_eq, decide_eq_false_iff_not, beq_iff_eq, bne_iff_ne, beq_eq_false_iff_ne, bne_eq_false_iff_eq, Int.toNat_natCast, ge_iff_le, gt_iff_lt, Bool.not_eq_true', Bool.not_eq_false', Int.not_lt, Int.not_le, ne_eq] at *)
  all_goals (try dsimp only [Ty.den, Ty.dflt, RecT] at *)
  all_goals (try simp only [eq4, ne4, eq3, ne3, eq2, ne2, Prod.eta, List.length_cons, List.length_nil, List.length_append, Nat.zero_add] at *)
  all_goals (try simp (disch := omega) only [wrap64] at *)
  all_goals try first | exact leafDraw (by kernel_rfl) | exact Leaf.mk trivial | (refine Leaf.mk ?_; omega) | (refine Leaf.mk ?_; unfold maxLen; omega)
  all_goals try
    have hat : i < l.length → mapL (l.take (i + 1)) = stepL (mapL (l.take i)) (l.getD i rec0) := fun h => foldl_at rec0 h
  all_goals first
    | (refine Leaf.mk (Exists.intro (i + 1) ⟨?_, by omega, by omega⟩)
       rw [hat (by omega), stepL]
       first
       | (rw [if_pos (show (l.getD i rec0).1 = 4 from ‹_›)]; rfl)
       | (rw [if_neg (show ¬ (l.getD i rec0).1 = 4 from ‹_›)]
          first
          | (rw [if_pos (.inl (show (l.getD i rec0).1 = 2 from ‹_›))]; rfl)
          | (rw [if_pos (.inr (show (l.getD i rec0).1 = 3 from ‹_›))]; rfl)
          | (rw [if_neg (fun hc => by rcases hc with hc | hc; exact (show ¬ (l.getD i rec0).1 = 2 from ‹_›) hc; exact (show ¬ (l.getD i rec0).1 = 3 from ‹_›) hc)]; rfl)))
    | (refine Leaf.mk ?_
       have h9 := mapL_len (l.take i) []
       rw [List.length_take] at h9
       exact Nat.le_trans h9 (by simp; omega))
    | (refine Leaf.mk (ret1 (show sortInt (keysM (mapL (l.take i))) = liveF l from ?_))
       rw [sortInt_isrt, List.take_of_length_le (by omega)]; rfl)
    | skip
end Go.Proofs.Ytcgfolhnoggjfaa

set_option linter.unusedVariables false
set_option linter.unusedSimpArgs false
set_option maxRecDepth 8000
set_option maxHeartbeats 4000000
namespace Go.Proofs.Ytcgfolhnoggjfaa
open Go.Eng
def lightW1 (r : Rec) : Bool := decide (r.2.2.2.1.length ≤ 100 ∧ r.2.2.2.2.2.length ≤ 100)
def lightW (l : List Rec) (most : Int) : Bool := decide ((l.length : Int) ≤ most) && l.all lightW1
theorem lightW_of {l : List Rec} {m : Int} (h : lightW l m = true) : (l.length : Int) ≤ m ∧ ∀ r ∈ l, r.2.2.2.1.length ≤ 100 ∧ r.2.2.2.2.2.length ≤ 100 := by
  unfold lightW at h
  rw [Bool.and_eq_true, List.all_eq_true] at h
  exact ⟨of_decide_eq_true h.1, fun r hr => of_decide_eq_true (h.2 r hr)⟩
def sLightW : PSpec := ⟨[.d RsT, .d (.int .i64)], [⟨false, [.d .bool]⟩], fun _ => True, fun x => ((lightW x.1 x.2.1, ()), ())⟩
theorem allW_at {p : Rec → Bool} {xs : List Rec} {i : Nat} (h : i < xs.length) : (xs.take (i + 1)).all p = ((xs.take i).all p && p (xs.getD i rec0)) := by
  rw [take_at rec0 h, List.all_append]; simp
theorem allW_no {p : Rec → Bool} {xs : List Rec} {i : Nat} (h : i < xs.length) (hn : p (xs.getD i rec0) = false) : xs.all p = false := by
  have : ¬ xs.all p = true := fun hc => by
    rw [List.all_eq_true] at hc
    have := hc _ (getD_mem rec0 h)
    rw [hn] at this; exact absurd this (by simp)
  exact Bool.eq_false_iff.2 this
theorem fLightW : FnOk Try.prog 35 := ⟨_, Try.func35, by decide, rfl⟩
theorem pLightW : PSound Try.prog 35 sLightW := by
  refine psound (T := tab) (S := (spOf [])) (keep := k35) (by kernel_rfl) tabOk spNil (by kernel_rfl) Try.func35 (by kernel_rfl) (by decide) fun xs hg hp => ?_
  obtain ⟨xs, most, ⟨⟩⟩ := xs
  obtain ⟨⟨hl, -⟩, -⟩ := hg
  change List Rec at xs
  change Int at most
  change xs.length ≤ _ at hl
  have hl := len63 hl
  clear hp
  show vfun tab _ k35 Try.f35 [.sl RecT xs, .i .i64 most] [] _
  refine Ev.out ?_
  repeat' (first | ((with_reducible refine Ev.mk ?_); conv => whnf) | (with_reducible refine And.intro ?_ ?_) | (intro h))
  all_goals (try simp only [decide_eq_true_eq, decide_eq_false_iff_not, beq_iff_eq, bne_iff_ne, beq_eq_false_iff_ne, bne_eq_false_iff_eq, Int.toNat_natCast, ge_iff_le, gt_iff_lt, Bool.not_eq_true', Bool.not_eq_false', Int.not_lt, Int.not_le, ne_eq] at *)
  all_goals (try dsimp only [Ty.den, Ty.dflt, RecT] at *)
  all_goals (try simp only [eq4, ne4, eq3, ne3, eq2, ne2, Prod.eta, List.length_cons, List.length_nil, List.length_append, Nat.zero_add] at *)
  all_goals (try simp (disch := omega) only [wrap64] at *)
  · refine Leaf.mk (ret1 (show false = lightW xs most from ?_))
    rw [lightW, decide_eq_false (by omega), Bool.false_and]
  refine LoopVC.on (fun i : Nat => [(5, .i .i64 i)]) (fun _ => []) (fun i => i ≤ xs.length ∧ (xs.take i).all lightW1 = true) (fun i => xs.length - i) 0 rfl ⟨by omega, rfl⟩ ?_
  intro i ⟨hi, he⟩
  repeat' (first | ((with_reducible refine Ev.mk ?_); conv => whnf) | (with_reducible refine And.intro ?_ ?_) | (intro h))
  all_goals (try simp only [decide_eq_true_eq, decide_eq_false_iff_not, beq_iff_eq, bne_iff_ne, beq_eq_false_iff_ne, bne_eq_false_iff_eq, Int.toNat_natCast, ge_iff_le, gt_iff_lt, Bool.not_eq_true', Bool.not_eq_false', Int.not_lt, Int.not_le, ne_eq] at *)
  all_goals (try dsimp only [Ty.den, Ty.dflt, RecT] at *)
  all_goals (try simp only [eq4, ne4, eq3, ne3, eq2, ne2, Prod.eta, List.length_cons, List.length_nil, List.length_append, Nat.zero_add] at *)
  all_goals (try simp (disch := omega) only [wrap64] at *)
  all_goals try first | exact leafDraw (by kernel_rfl) | exact Leaf.mk trivial | (refine Leaf.mk ?_; omega) | (refine Leaf.mk ?_; unfold maxLen; omega)
  all_goals first
    | (refine Leaf.mk (ret1 (show false = lightW xs most from ?_))
       rw [lightW, allW_no (i := i) (by omega) (decide_eq_false (by dsimp only [rec0]; omega)), Bool.and_false])
    | (refine Leaf.mk ⟨i + 1, rfl, ⟨by omega, ?_⟩, by omega⟩
       rw [allW_at (by omega), he, Bool.true_and]
       exact decide_eq_true (by dsimp only [rec0]; omega))
    | (refine Leaf.mk (ret1 (show true = lightW xs most from ?_))
       rw [List.take_of_length_le (by omega)] at he
       rw [lightW, he, Bool.and_true, decide_eq_true (by omega)])
def mxZ (a b : Int) : Int := if b > a then b else a
def clockF (l : List Rec) (f : Int) : Int := l.foldl (fun a r => mxZ a r.2.2.1) f
def sWClock : PSpec := ⟨[.d RsT, .d (.int .i64)], [⟨false, [.d (.int .i64)]⟩], fun x => List.length x.1 ≤ 1000, fun x => ((clockF x.1 x.2.1, ()), ())⟩
theorem fWClock : FnOk Try.prog 45 := ⟨_, Try.func45, by decide, rfl⟩
theorem pWClock : PSound Try.prog 45 sWClock := by
  refine psound (T := tab) (S := (spOf [])) (keep := k45) (by kernel_rfl) tabOk spNil (by kernel_rfl) Try.func45 (by kernel_rfl) (by decide) fun xs hg hp => ?_
  obtain ⟨l, f, ⟨⟩⟩ := xs
  change List Rec at l
  change Int at f
  change l.length ≤ 1000 at hp
  clear hg
  show vfun tab _ k45 Try.f45 [.sl RecT l, .i .i64 f] [] _
  refine Ev.out ?_
  repeat' (first | ((with_reducible refine Ev.mk ?_); conv => whnf) | (with_reducible refine And.intro ?_ ?_) | (intro h))
  all_goals (try simp only [decide_eq_true_eq, decide_eq_false_iff_not, beq_iff_eq, bne_iff_ne, beq_eq_false_iff_ne, bne_eq_false_iff_eq, Int.toNat_natCast, ge_iff_le, gt_iff_lt, Bool.not_eq_true', Bool.not_eq_false', Int.not_lt, Int.not_le, ne_eq] at *)
  all_goals (try dsimp only [Ty.den, Ty.dflt, RecT] at *)
  all_goals (try simp only [eq4, ne4, eq3, ne3, eq2, ne2, Prod.eta, List.length_cons, List.length_nil, List.length_append, Nat.zero_add] at *)
  all_goals (try simp (disch := omega) only [wrap64] at *)
  all_goals try first | exact leafDraw (by kernel_rfl) | exact Leaf.mk trivial | (refine Leaf.mk ?_; omega) | (refine Leaf.mk ?_; unfold maxLen; omega)
  refine LoopVC.on (fun i : Nat => [(1, .i .i64 (clockF (l.take i) f)), (9, .i .i64 i)]) (fun _ => []) (fun i => i ≤ l.length) (fun i => l.length - i) 0 rfl (by omega) ?_
  intro i hi
  have hat : i < l.length → clockF (l.take (i + 1)) f = mxZ (clockF (l.take i) f) (l.getD i rec0).2.2.1 := fun h => foldl_at rec0 h
  repeat' (first | ((with_reducible refine Ev.mk ?_); conv => whnf) | (with_reducible refine And.intro ?_ ?_) | (intro h))
  all_goals (try simp only [decide_eq_true_eq, decide_eq_false_iff_not, beq_iff_eq, bne_iff_ne, beq_eq_false_iff_ne, bne_eq_false_iff_eq, Int.toNat_natCast, ge_iff_le, gt_iff_lt, Bool.not_eq_true', Bool.not_eq_false', Int.not_lt, Int.not_le, ne_eq] at *)
  all_goals (try dsimp only [Ty.den, Ty.dflt, RecT] at *)
  all_goals (try simp only [eq4, ne4, eq3, ne3, eq2, ne2, Prod.eta, List.length_cons, List.length_nil, List.length_append, Nat.zero_add] at *)
  all_goals (try simp (disch := omega) only [wrap64] at *)
  all_goals try first | exact leafDraw (by kernel_rfl) | exact Leaf.mk trivial | (refine Leaf.mk ?_; omega) | (refine Leaf.mk ?_; unfold maxLen; omega)
  · refine Leaf.mk (Exists.intro (i + 1) ⟨?_, by omega, by omega⟩)
    rw [hat (by omega)]; rfl
  · refine Leaf.mk (ret1 (show clockF (l.take i) f = clockF l f from ?_))
    rw [List.take_of_length_le (by omega)]
def firstW : List Rec → Int
  | [] => 0
  | r :: l => if checkW r = 0 then firstW l else checkW r
def allF (l : List Rec) : List (List Int) × Int := if firstW l = 0 then (l.map putW, 0) else ([], firstW l)
theorem firstW_at {l : List Rec} {i : Nat} (h : i < l.length) : firstW (l.drop i) = if checkW (l.getD i rec0) = 0 then firstW (l.drop (i + 1)) else checkW (l.getD i rec0) := by
  rw [drop_at rec0 h, firstW]
theorem retA {u v : List (List Int) × Int} (h : u = v) : (some ((u.1, ()), (u.2, ()), ()) : Option ((List (List Int) × Unit) × (Int × Unit) × Unit)) = some ((v.1, ()), (v.2, ()), ()) := by rw [h]
theorem putWF_ne {r : Rec} (h : ¬ (putWF r).2 = 0) : ¬ checkW r = 0 ∧ (putWF r).2 = checkW r := by
  unfold putWF at h ⊢
  by_cases hc : checkW r = 0
  · rw [if_pos hc] at h; exact absurd rfl h
  · rw [if_neg hc]; exact ⟨hc, rfl⟩
def sWAll : PSpec := ⟨[.d RsT], [⟨false, [.d (.slice BT)]⟩, ⟨false, [.d (.int .i64)]⟩], fun x => List.length x.1 ≤ 1000 ∧ ∀ r ∈ x.1, List.length r.2.2.2.1 ≤ 1000 ∧ List.length r.2.2.2.2.2 ≤ 1000, fun x => (((allF x.1).1, ()), ((allF x.1).2, ()), ())⟩
theorem fWAll : FnOk Try.prog 47 := ⟨_, Try.func47, by decide, rfl⟩
theorem pWAll : PSound Try.prog 47 sWAll := by
  refine psound (T := tab) (S := (spOf [(37, sWPut.spec (lsOf []))])) (keep := k47) (by kernel_rfl) tabOk (spCons (pOk pWPut fWPut (by decide) lsNil) spNil) (by kernel_rfl) Try.func47 (by kernel_rfl) (by decide) fun xs hg hp => ?_
  obtain ⟨l, ⟨⟩⟩ := xs
  change List Rec at l
  change l.length ≤ 1000 ∧ ∀ r ∈ l, List.length r.2.2.2.1 ≤ 1000 ∧ List.length r.2.2.2.2.2 ≤ 1000 at hp
  obtain ⟨hp, hr⟩ := hp
  clear hg
  show vfun tab _ k47 Try.f47 [.sl RecT l] [] _
  refine Ev.out ?_
  repeat' (first | ((with_reducible refine Ev.mk ?_); conv => whnf) | (with_reducible refine And.intro ?_ ?_) | (intro h))
  all_goals (try simp only [decide_eq_true_eq, decide_eq_false_iff_not, beq_iff_eq, bne_iff_ne, beq_eq_false_iff_ne, bne_eq_false_iff_eq, Int.toNat_natCast, ge_iff_le, gt_iff_lt, Bool.not_eq_true', Bool.not_eq_false', Int.not_lt, Int.not_le, ne_eq] at *)
  all_goals (try dsimp only [Ty.den, Ty.dflt, RecT, sWPut] at *)
  all_goals (try simp only [eq4, ne4, eq3, ne3, eq2, ne2, Prod.eta, List.length_cons, List.length_nil, List.length_append, Nat.zero_add] at *)
  all_goals (try simp (disch := omega) only [wrap64] at *)
  all_goals try first | exact leafDraw (by kernel_rfl) | exact Leaf.mk trivial | (refine Leaf.mk ?_; omega) | (refine Leaf.mk ?_; unfold maxLen; omega)
  refine LoopVC.weak [(.slot 4, .nil 57 BT)] (fun i : Nat => [(11, .i .i64 i)]) (fun i => [(0, .arr 57 BT ((l.take i).map putW))]) (fun i => i ≤ l.length ∧ firstW l = firstW (l.drop i)) (fun i => l.length - i) 0 (Ev.mk ?_)
  (conv => whnf)
  refine ⟨Leaf.mk rfl, Leaf.mk ?_, ?_⟩
  · exact ⟨by omega, rfl⟩
  intro i ⟨hi, he⟩
  repeat' (first | ((with_reducible refine Ev.mk ?_); conv => whnf) | (with_reducible refine And.intro ?_ ?_) | (intro h))
  all_goals (try simp only [decide_eq_true_eq, decide_eq_false_iff_not, beq_iff_eq, bne_iff_ne, beq_eq_false_iff_ne, bne_eq_false_iff_eq, Int.toNat_natCast, ge_iff_le, gt_iff_lt, Bool.not_eq_true', Bool.not_eq_false', Int.not_lt, Int.not_le, ne_eq] at *)
  all_goals (try dsimp only [Ty.den, Ty.dflt, RecT, sWPut] at *)
  all_goals (try simp only [eq4, ne4, eq3, ne3, eq2, ne2, Prod.eta, List.length_cons, List.length_nil, List.length_append, Nat.zero_add] at *)
  all_goals (try simp (disch := omega) only [wrap64] at *)
  all_goals try first | exact leafDraw (by kernel_rfl) | exact Leaf.mk trivial | (refine Leaf.mk ?_; omega) | (refine Leaf.mk ?_; unfold maxLen; omega)
  all_goals try
    have hri := hr _ (getD_mem rec0 (show i < l.length by omega))
    dsimp only [rec0] at hri
  all_goals have htl : (l.take i).length = i := by rw [List.length_take]; omega
  all_goals first
    | (refine Leaf.mk ?_; omega)
    | (refine Leaf.mk ?_; simp only [List.length_map]; omega)
    | (refine Leaf.mk ?_; simp only [List.length_map]; unfold maxLen; omega)
    | (refine Leaf.mk (retA (u := ([], (putWF (l.getD i rec0)).2)) ?_)
       have hc := putWF_ne (r := l.getD i rec0) ‹_›
       have hf := firstW_at (show i < l.length by omega)
       rw [if_neg hc.1] at hf
       rw [allF, if_neg (by rw [he, hf]; exact hc.1), he, hf, hc.2])
    | (refine Leaf.mk (Exists.intro (i + 1) ⟨?_, ⟨by omega, ?_⟩, by omega⟩)
       · have hc := putWF_zero (r := l.getD i rec0) ‹_›
         rw [take_at rec0 (by omega), List.map_append, List.map_cons, List.map_nil, ← hc.2]; rfl
       · have hc := putWF_zero (r := l.getD i rec0) ‹_›
         rw [he, firstW_at (show i < l.length by omega), if_pos hc.1])
    | (refine Leaf.mk (retA (u := ((l.take i).map putW, 0)) ?_)
       rw [drop_end (by omega)] at he
       rw [allF, if_pos (by rw [he]; rfl), List.take_of_length_le (by omega)])
end Go.Proofs.Ytcgfolhnoggjfaa

set_option linter.unusedVariables false
set_option linter.unusedSimpArgs false
set_option maxRecDepth 8000
set_option maxHeartbeats 4000000
namespace Go.Proofs.Ytcgfolhnoggjfaa
open Go.Eng
def sAwake08 : PSpec := ⟨[], [⟨false, [.d .bool]⟩], fun _ => True, fun _ => ((true, ()), ())⟩
theorem fAwake08 : FnOk Try.prog 36 := ⟨_, Try.func36, by decide, rfl⟩
theorem pAwake08 : PSound Try.prog 36 sAwake08 := by
  refine psound (T := tab) (S := (spOf [(37, sWPut.spec (lsOf [])), (41, sWGet.spec (lsOf [])), (43, sWLive.spec (lsOf [])), (47, sWAll.spec (lsOf [])), (45, sWClock.spec (lsOf [])), (39, sWCheck.spec (lsOf []))])) (keep := k36) (by kernel_rfl) tabOk (spCons (pOk pWPut fWPut (by decide) lsNil) (spCons (pOk pWGet fWGet (by decide) lsNil) (spCons (pOk pWLive fWLive (by decide) lsNil) (spCons (pOk pWAll fWAll (by decide) lsNil) (spCons (pOk pWClock fWClock (by decide) lsNil) (spCons (pOk pWCheck fWCheck (by decide) lsNil) spNil)))))) (by kernel_rfl) Try.func36 (by kernel_rfl) (by decide) fun xs hg hp => ?_
  obtain ⟨⟩ := xs
  show vfun tab _ k36 Try.f36 [] [] _
  refine Ev.out ?_
  repeat' (first | ((with_reducible refine Ev.mk ?_); conv => whnf) | (with_reducible refine And.intro ?_ ?_) | (intro h; first | exact absurd h (by decide +kernel) | skip))
  all_goals first
    | exact Leaf.mk trivial
    | exact leafDraw (by kernel_rfl)
    | (refine Leaf.mk ?_; change _ ∧ _; decide +kernel)
    | (refine Leaf.mk ?_; change (_ : Nat) ≤ _; decide +kernel)
    | (refine Leaf.mk ?_; decide +kernel)
    | exact Leaf.mk rfl
theorem lightP1 {r : Rec} (h : lightW [r] 1 = true) : List.length r.2.2.2.1 ≤ 1000000 ∧ List.length r.2.2.2.2.2 ≤ 1000000 := by
  have := (lightW_of h).2 r (by simp)
  omega
def sWalrecPuts : PSpec := lawSpec [RecT]
theorem pWalrecPuts : PSound Try.prog 8 sWalrecPuts := by
  refine psound (T := tab) (S := (spOf [(35, sLightW.spec (lsOf [])), (36, sAwake08.spec (lsOf [])), (37, sWPut.spec (lsOf [])), (38, sWPutR.spec (lsOf [])), (39, sWCheck.spec (lsOf [])), (40, sWCheckR.spec (lsOf []))])) (keep := k8) (by kernel_rfl) tabOk (spCons (pOk pLightW fLightW (by decide) lsNil) (spCons (pOk pAwake08 fAwake08 (by decide) lsNil) (spCons (pOk pWPut fWPut (by decide) lsNil) (spCons (pOk pWPutR fWPutR (by decide) lsNil) (spCons (pOk pWCheck fWCheck (by decide) lsNil) (spCons (pOk pWCheckR fWCheckR (by decide) lsNil) spNil)))))) (by kernel_rfl) Try.func8 (by kernel_rfl) (by decide) fun xs hg hp => ?_
  obtain ⟨⟨k, t, s, key, g, v⟩, ⟨⟩⟩ := xs
  clear hp
  obtain ⟨hgr, -⟩ := hg
  change Int at k t s
  change List UInt8 at key v
  change Bool at g
  show vfun tab _ k8 Try.f8 [.agg [.i .u8 k, .i .i64 t, .i .i64 s, .s key, .b g, .s v]] [] _
  refine Ev.out ?_
  repeat' (first | ((with_reducible refine Ev.mk ?_); conv => whnf) | (with_reducible refine And.intro ?_ ?_) | (intro h))
  all_goals (try simp only [decide_eq_true_eq, decide_eq_false_iff_not, beq_iff_eq, bne_iff_ne, beq_eq_false_iff_ne, bne_eq_false_iff_eq, Int.toNat_natCast, ge_iff_le, gt_iff_lt, Bool.not_eq_true', Bool.not_eq_false', Int.not_lt, Int.not_le, ne_eq] at *)
  all_goals (try dsimp only [Ty.den, Ty.dflt, RecT, sLightW] at *)
  all_goals (try simp only [eq4, ne4, eq3, ne3, eq2, ne2, Prod.eta, List.length_cons, List.length_nil, List.length_append, Nat.zero_add] at *)
  all_goals (try simp (disch := omega) only [wrap64] at *)
  all_goals try first | exact leafDraw (by kernel_rfl) | exact Leaf.mk trivial | (refine Leaf.mk ?_; omega) | (refine Leaf.mk ?_; unfold maxLen; omega)
  all_goals first
    | exact Leaf.mk trivial
    | exact Leaf.mk rfl
    | exact absurd rfl h
    | skip
  all_goals exact Leaf.mk (lightP1 ‹lightW _ 1 = true›)
end Go.Proofs.Ytcgfolhnoggjfaa
