import Derived.Test.YtjifalccioebnaaQ8
import Derived.Test.YtjifalccioebnaaEng4
import Derived.WalkKit
import Derived.Deep.RegionHeld3
import Derived.Deep.AppendLies
import Derived.Deep.DrawnRows
import Derived.Deep.Onto
import Derived.Laws.OwnMore
import Derived.Below
/- Texts, one behind the other. -/
set_option linter.unusedVariables false
set_option linter.unusedSimpArgs false
set_option maxRecDepth 8000
set_option maxHeartbeats 1000000
namespace Go.Proofs.Ytjifalccioebnaa
open Go.Eng
section
variable {α : Type} {p : Nat → Bool} {m : α} {bs : List (List α)} {i : Nat}
def addB (p : Nat → Bool) (m : α) (bs : List (List α)) : List (List α) := (List.range bs.length).map fun j => if p j = true then bs.getD j [] ++ [m] else bs.getD j []
def rowsX (p : Nat → Bool) (m : α) (bs : List (List α)) (i : Nat) : List (Bool × List α) := (List.range bs.length).map fun j => if j < i ∧ p j = true then (false, bs.getD j [] ++ [m]) else (true, bs.getD j [])
theorem rowsX_len : (rowsX p m bs i).length = bs.length := by simp [rowsX]
theorem addB_len : (addB p m bs).length = bs.length := by simp [addB]
theorem rowsX_zero : rowsX p m bs 0 = bs.map (fun b => (true, b)) := by
  apply List.ext_getElem (by simp [rowsX])
  intro j h1 h2
  simp only [List.length_map] at h2
  simp [rowsX, List.getD_eq_getElem?_getD, List.getElem?_eq_getElem h2]
theorem rowsX_get (h : i < bs.length) : (rowsX p m bs i)[i]? = some (true, bs.getD i []) := by
  simp [rowsX, h]
theorem rowsX_set (h : p i = true) : (rowsX p m bs i).set i (false, bs.getD i [] ++ [m]) = rowsX p m bs (i + 1) := by
  apply List.ext_getElem (by simp [rowsX])
  intro j h1 h2
  by_cases hj : i = j
  · subst hj; simp [rowsX, h]
  · simp only [List.getElem_set, if_neg hj, rowsX, List.getElem_map, List.getElem_range]
    congr 1
    apply propext
    constructor
    · rintro ⟨h3, h4⟩; exact ⟨by omega, h4⟩
    · rintro ⟨h3, h4⟩; exact ⟨by omega, h4⟩
theorem rowsX_no (h : p i = false) : rowsX p m bs (i + 1) = rowsX p m bs i := by
  apply List.ext_getElem (by simp [rowsX])
  intro j h1 h2
  simp only [rowsX, List.getElem_map, List.getElem_range]
  congr 1
  apply propext
  constructor
  · rintro ⟨h3, h4⟩
    refine ⟨?_, h4⟩
    rcases Nat.lt_or_ge j i with h5 | h5
    · exact h5
    · obtain rfl : j = i := by omega
      rw [h] at h4; cases h4
  · rintro ⟨h3, h4⟩; exact ⟨by omega, h4⟩
theorem rowsX_end : (rowsX p m bs bs.length).map (fun r => r.2) = addB p m bs := by
  apply List.ext_getElem (by simp [rowsX, addB])
  intro j h1 h2
  simp only [rowsX, addB, List.getElem_map, List.getElem_range]
  have hj : j < bs.length := by simpa [addB] using h2
  by_cases hp : p j = true
  · simp [hp, hj]
  · simp [hp]
end
theorem getD_in {α : Type} {l : List α} {i : Nat} {d : α} (h : i < l.length) : l.getD i d = l[i] := by
  rw [List.getD_eq_getElem?_getD, List.getElem?_eq_getElem h]; rfl
section
variable {α : Type} {k : Nat} {key : α} {ps : List α} {j : Nat}
def insK (k : Nat) (key : α) (ps : List α) : List α := ps.take k ++ ([key] ++ ps.drop k)
end
def hasI (n : Inn) (i : Int) : Bool := decide (wholeI n = true ∧ 0 ≤ i ∧ i < (n.2.1.length : Int))
def aimI (n : Inn) (m : Msg) (j : Nat) : Bool := wide m || decide (j = routeI n.1 m.2.1)
def addI (n : Inn) (m : Msg) : Inn := if wholeI n = true ∧ mcheck m = 0 then (n.1, n.2.1, addB (aimI n m) m n.2.2) else n
def weighI (n : Inn) (i : Int) : Int := if hasI n i = true then (((n.2.2.getD i.toNat []).flatMap pm).length : Nat) else 0
def takeI (n : Inn) (i : Int) : List Msg × Inn := if hasI n i = true then (n.2.2.getD i.toNat [], (n.1, n.2.1, n.2.2.set i.toNat [])) else ([], n)
def renewI (n : Inn) (i kid : Int) : Inn := if hasI n i = true then (n.1, n.2.1.set i.toNat kid, n.2.2) else n
def growI (n : Inn) (i right : Int) (sep : List UInt8) : Inn := if hasI n i = true then (insK i.toNat sep n.1, insK (i.toNat + 1) right n.2.1, insK (i.toNat + 1) [] n.2.2) else n
def splitI (n : Inn) : Inn × Inn × List UInt8 := if wholeI n = true ∧ 2 ≤ n.2.1.length then ((n.1.take (n.2.1.length / 2 - 1), n.2.1.take (n.2.1.length / 2), n.2.2.take (n.2.1.length / 2)), (n.1.drop (n.2.1.length / 2), n.2.1.drop (n.2.1.length / 2), n.2.2.drop (n.2.1.length / 2)), n.1.getD (n.2.1.length / 2 - 1) []) else (n, ([], [], []), [])
def fullN (n : Inn) : Nat → Int × Int
  | 0 => (0, 0)
  | i + 1 => if weighI n i > (fullN n i).2 then ((i : Int), weighI n i) else fullN n i
def fullestI (n : Inn) : Int := (fullN n n.2.1.length).1
def loI (n : Inn) (i : Int) : List UInt8 := if 0 < i ∧ i < (n.2.1.length : Int) ∧ i ≤ (n.1.length : Int) then n.1.getD (i.toNat - 1) [] else []
def hiI (n : Inn) (i : Int) : List UInt8 := if 0 ≤ i ∧ i < (n.2.1.length : Int) ∧ i < (n.1.length : Int) then n.1.getD i.toNat [] else []
def grown (n : Inn) (k : Nat) (key : List UInt8) : Inn := (insK k key n.1, insK (k + 1) 6 (n.2.1.set k 5), insK (k + 1) [] (n.2.2.set k []))
end Go.Proofs.Ytjifalccioebnaa

set_option linter.unusedVariables false
set_option linter.unusedSimpArgs false
set_option maxRecDepth 8000
set_option maxHeartbeats 4000000
namespace Go.Proofs.Ytjifalccioebnaa
open Go.Eng
def lightI (n : Inn) : Bool := decide (n.1.length ≤ 10 ∧ n.2.1.length ≤ 10 ∧ n.2.2.length ≤ 10) && (n.1.all (fun p => decide (p.length ≤ 100)) && n.2.2.all (fun b => lightM b 30))
def sLightI : PSpec := ⟨[.d InT], [⟨false, [.d .bool]⟩], fun _ => True, fun x => ((lightI x.1, ()), ())⟩
theorem lightI_pre {n : Inn} (h : lightI n = true) : IPre n ∧ ∀ b ∈ n.2.2, b.length ≤ 30 := by
  simp only [lightI, Bool.and_eq_true, decide_eq_true_eq, List.all_eq_true] at h
  obtain ⟨⟨h1, h2, h3⟩, h4, h5⟩ := h
  have hb : ∀ b ∈ n.2.2, b.length ≤ 30 := fun b hb => by
    have := h5 b hb
    unfold lightM at this
    rw [Bool.and_eq_true, decide_eq_true_eq] at this
    omega
  have hf : n.2.2.flatten.length ≤ n.2.2.length * 30 := by
    have := flat_len2 (f := id) (m := 30) (l := n.2.2) hb
    rwa [List.flatMap_id] at this
  exact ⟨⟨by omega, fun p hp => by have := h4 p hp; omega, by omega, by omega, by omega⟩, hb⟩
theorem lightI_no {n : Inn} (h : (¬ (n.1.length ≤ 10 ∧ n.2.1.length ≤ 10 ∧ n.2.2.length ≤ 10)) ∨ (∃ i, i < n.1.length ∧ ¬ (n.1.getD i []).length ≤ 100) ∨ ∃ i, i < n.2.2.length ∧ lightM (n.2.2.getD i []) 30 = false) : lightI n = false := by
  apply Bool.eq_false_iff.2
  intro hc
  simp only [lightI, Bool.and_eq_true, decide_eq_true_eq, List.all_eq_true] at hc
  rcases h with h | ⟨i, hi, h⟩ | ⟨i, hi, h⟩
  · exact h hc.1
  · exact h (hc.2.1 _ (getD_mem (xs := n.1) [] hi))
  · rw [hc.2.2 _ (getD_mem (xs := n.2.2) [] hi)] at h; cases h
theorem all_getD {α : Type} {p : α → Bool} {l : List α} (d : α) (h : ∀ i, i < l.length → p (l.getD i d) = true) : l.all p = true := by
  rw [List.all_eq_true]
  intro x hx
  obtain ⟨i, hi, rfl⟩ := List.mem_iff_getElem.1 hx
  have := h i hi
  rwa [List.getD_eq_getElem?_getD, List.getElem?_eq_getElem hi] at this
theorem lightI_yes {n : Inn} (h : n.1.length ≤ 10 ∧ n.2.1.length ≤ 10 ∧ n.2.2.length ≤ 10) (h1 : ∀ i, i < n.1.length → (n.1.getD i []).length ≤ 100) (h2 : ∀ i, i < n.2.2.length → lightM (n.2.2.getD i []) 30 = true) : lightI n = true := by
  rw [lightI, decide_eq_true h, all_getD [] (fun i hi => decide_eq_true (h1 i hi)), all_getD [] h2]; rfl
theorem fLightI : FnOk Try.prog 4 := ⟨_, Try.func4, by decide, rfl⟩
theorem pLightI : PSound Try.prog 4 sLightI := by
  refine psound (T := tab) (S := (spOf [(5, sLightM.spec (lsOf []))])) (keep := k4) (by kernel_rfl) tabOk (spCons (pOk pLightM fLightM (by decide) lsNil) spNil) (by kernel_rfl) Try.func4 (by kernel_rfl) (by decide) fun xs hg hp => ?_
  obtain ⟨⟨ps, ks, bs⟩, ⟨⟩⟩ := xs
  obtain ⟨⟨⟨hlp, -⟩, -, ⟨hlb, -⟩⟩, -⟩ := hg
  change List (List UInt8) at ps
  change List Int at ks
  change List (List Msg) at bs
  have hlp := len63 hlp
  have hlb := len63 hlb
  clear hp
  show vfun tab _ k4 Try.f4 [.agg [.sl .str ps, .sl (.int .i64) ks, .sl (.slice MsgT) bs]] [] _
  refine Ev.out ?_
  repeat' (first | ((with_reducible refine Ev.mk ?_); conv => whnf) | (with_reducible refine And.intro ?_ ?_) | (intro h))
  all_goals (try simp only [decide_eq_true_eq, decide_eq_false_iff_not, beq_iff_eq, bne_iff_ne, beq_eq_false_iff_ne, bne_eq_false_iff_eq, Int.toNat_natCast, ge_iff_le, gt_iff_lt, Bool.not_eq_true', Bool.not_eq_false', Int.not_lt, Int.not_le, ne_eq] at *)
  all_goals (try dsimp only [Ty.den, Ty.dflt, InT] at *)
  all_goals (try simp only [eq4, ne4, eq3, ne3, eq2, ne2, Prod.eta, List.length_cons, List.length_nil, List.length_append, Nat.zero_add] at *)
  all_goals (try simp (disch := omega) only [wrap64] at *)
  all_goals try first | exact leafDraw (by kernel_rfl) | exact Leaf.mk trivial | (refine Leaf.mk ?_; omega) | (refine Leaf.mk ?_; unfold maxLen; omega)
  · exact Leaf.mk (ret1 (show false = lightI (ps, ks, bs) from (lightI_no (.inl (by dsimp only; omega))).symm))
  · exact Leaf.mk (ret1 (show false = lightI (ps, ks, bs) from (lightI_no (.inl (by dsimp only; omega))).symm))
  · exact Leaf.mk (ret1 (show false = lightI (ps, ks, bs) from (lightI_no (.inl (by dsimp only; omega))).symm))
  refine LoopVC.on (fun i : Nat => [(3, .i .i64 i)]) (fun _ => []) (fun i => i ≤ ps.length ∧ ∀ j, j < i → (ps.getD j []).length ≤ 100) (fun i => ps.length - i) 0 rfl ⟨by omega, fun j hj => by omega⟩ ?_
  intro i ⟨hi, ha⟩
  repeat' (first | ((with_reducible refine Ev.mk ?_); conv => whnf) | (with_reducible refine And.intro ?_ ?_) | (intro h))
  all_goals (try simp only [decide_eq_true_eq, decide_eq_false_iff_not, beq_iff_eq, bne_iff_ne, beq_eq_false_iff_ne, bne_eq_false_iff_eq, Int.toNat_natCast, ge_iff_le, gt_iff_lt, Bool.not_eq_true', Bool.not_eq_false', Int.not_lt, Int.not_le, ne_eq] at *)
  all_goals (try dsimp only [Ty.den, Ty.dflt, InT] at *)
  all_goals (try simp only [eq4, ne4, eq3, ne3, eq2, ne2, Prod.eta, List.length_cons, List.length_nil, List.length_append, Nat.zero_add] at *)
  all_goals (try simp (disch := omega) only [wrap64] at *)
  all_goals try first | exact leafDraw (by kernel_rfl) | exact Leaf.mk trivial | (refine Leaf.mk ?_; omega) | (refine Leaf.mk ?_; unfold maxLen; omega)
  · refine Leaf.mk (ret1 (show false = lightI (ps, ks, bs) from (lightI_no (.inr (.inl ⟨i, by dsimp only; omega, ?_⟩))).symm)); dsimp only; omega
  · refine Leaf.mk ⟨i + 1, rfl, ⟨by omega, fun j hj => ?_⟩, by omega⟩
    rcases Nat.lt_or_ge j i with hji | hji
    · exact ha j hji
    · obtain rfl : j = i := by omega
      omega
  refine LoopVC.on (fun i : Nat => [(4, .i .i64 i)]) (fun _ => []) (fun i => i ≤ bs.length ∧ ∀ j, j < i → lightM (bs.getD j []) 30 = true) (fun i => bs.length - i) 0 rfl ⟨by omega, fun j hj => by omega⟩ ?_
  intro k ⟨hk, hb⟩
  repeat' (first | ((with_reducible refine Ev.mk ?_); conv => whnf) | (with_reducible refine And.intro ?_ ?_) | (intro h))
  all_goals (try simp only [decide_eq_true_eq, decide_eq_false_iff_not, beq_iff_eq, bne_iff_ne, beq_eq_false_iff_ne, bne_eq_false_iff_eq, Int.toNat_natCast, ge_iff_le, gt_iff_lt, Bool.not_eq_true', Bool.not_eq_false', Int.not_lt, Int.not_le, ne_eq] at *)
  all_goals (try dsimp only [Ty.den, Ty.dflt, InT, sLightM] at *)
  all_goals (try simp only [eq4, ne4, eq3, ne3, eq2, ne2, Prod.eta, List.length_cons, List.length_nil, List.length_append, Nat.zero_add] at *)
  all_goals (try simp (disch := omega) only [wrap64] at *)
  all_goals try first | exact leafDraw (by kernel_rfl) | exact Leaf.mk trivial | (refine Leaf.mk ?_; omega) | (refine Leaf.mk ?_; unfold maxLen; omega)
  · exact Leaf.mk (ret1 (show false = lightI (ps, ks, bs) from (lightI_no (.inr (.inr ⟨k, by dsimp only; omega, ‹_›⟩))).symm))
  · refine Leaf.mk ⟨k + 1, rfl, ⟨by omega, fun j hj => ?_⟩, by omega⟩
    rcases Nat.lt_or_ge j k with hji | hji
    · exact hb j hji
    · obtain rfl : j = k := by omega
      assumption
  · refine Leaf.mk (ret1 (show true = lightI (ps, ks, bs) from (lightI_yes ⟨by dsimp only; omega, by dsimp only; omega, by dsimp only; omega⟩ (fun j hj => ha j (by dsimp only at hj; omega)) (fun j hj => hb j (by dsimp only at hj; omega))).symm))
theorem ipre_iff {n : Inn} : IPre n ↔ n.1.length ≤ 20 ∧ (∀ p ∈ n.1, p.length ≤ 1000) ∧ n.2.1.length ≤ 20 ∧ n.2.2.length ≤ 20 ∧ n.2.2.flatten.length ≤ 5000 := ⟨fun h => ⟨h.p, h.pt, h.k, h.b, h.m⟩, fun h => ⟨h.1, h.2.1, h.2.2.1, h.2.2.2.1, h.2.2.2.2⟩⟩
instance decIPre (n : Inn) : Decidable (IPre n) := decidable_of_iff _ ipre_iff.symm
theorem cp_all {α : Type} (d : α) (xs : List α) : xs.take (List.replicate xs.length d).length ++ (List.replicate xs.length d).drop xs.length = xs := by simp
def sOwnL : PSpec := ⟨[.d InT], [⟨true, [.d InT]⟩], fun x => IPre x.1, fun x => ((x.1, ()), ())⟩
theorem fOwnL : FnOk Try.prog 7 := ⟨_, Try.func7, by decide, rfl⟩
theorem pOwnL : PSound Try.prog 7 sOwnL := by
  refine psound (T := tab) (S := (spOf [])) (keep := k7) (by kernel_rfl) tabOk spNil (by kernel_rfl) Try.func7 (by kernel_rfl) (by decide) fun xs hg hp => ?_
  obtain ⟨⟨ps, ks, bs⟩, ⟨⟩⟩ := xs
  clear hg
  change List (List UInt8) at ps
  change List Int at ks
  change List (List Msg) at bs
  change IPre (ps, ks, bs) at hp
  have hpp := hp.p
  have hpk := hp.k
  have hpb := hp.b
  have hbl := fun i => hp.bl i
  dsimp only at hpp hpk hpb hbl
  show vfun tab _ k7 Try.f7 [.agg [.sl .str ps, .sl (.int .i64) ks, .sl (.slice MsgT) bs]] [] _
  refine Ev.out ?_
  repeat' (first | ((with_reducible refine Ev.mk ?_); conv => whnf) | (with_reducible refine And.intro ?_ ?_) | (intro h))
  all_goals (try simp only [decide_eq_true_eq, decide_eq_false_iff_not, beq_iff_eq, bne_iff_ne, beq_eq_false_iff_ne, bne_eq_false_iff_eq, Int.toNat_natCast, ge_iff_le, gt_iff_lt, Bool.not_eq_true', Bool.not_eq_false', Int.not_lt, Int.not_le, ne_eq] at *)
  all_goals (try dsimp only [Ty.den, Ty.dflt, InT] at *)
  all_goals (try simp only [eq4, ne4, eq3, ne3, eq2, ne2, Prod.eta, List.length_cons, List.length_nil, List.length_append, Nat.zero_add] at *)
  all_goals (try simp (disch := omega) only [wrap64] at *)
  all_goals try first | exact leafDraw (by kernel_rfl) | exact Leaf.mk trivial | (refine Leaf.mk ?_; omega) | (refine Leaf.mk ?_; unfold maxLen; omega)
  refine LoopVC.weak [(.cell 2 2, .nil 32 (.slice MsgT))] (fun i : Nat => [(4, .i .i64 i)]) (fun i => [(5, .arr 32 (.slice MsgT) (bs.take i))]) (fun i => i ≤ bs.length) (fun i => bs.length - i) 0 (Ev.mk ?_)
  (conv => whnf)
  refine ⟨Leaf.mk ?_, Leaf.mk ?_, ?_⟩
  · rfl
  · omega
  intro i hi
  repeat' (first | ((with_reducible refine Ev.mk ?_); conv => whnf) | (with_reducible refine And.intro ?_ ?_) | (intro h))
  all_goals (try simp only [decide_eq_true_eq, decide_eq_false_iff_not, beq_iff_eq, bne_iff_ne, beq_eq_false_iff_ne, bne_eq_false_iff_eq, Int.toNat_natCast, ge_iff_le, gt_iff_lt, Bool.not_eq_true', Bool.not_eq_false', Int.not_lt, Int.not_le, ne_eq] at *)
  all_goals (try dsimp only [Ty.den, Ty.dflt, InT] at *)
  all_goals (try simp only [eq4, ne4, eq3, ne3, eq2, ne2, Prod.eta, List.length_cons, List.length_nil, List.length_append, Nat.zero_add] at *)
  all_goals (try simp (disch := omega) only [wrap64] at *)
  all_goals try first | exact leafDraw (by kernel_rfl) | exact Leaf.mk trivial | (refine Leaf.mk ?_; omega) | (refine Leaf.mk ?_; unfold maxLen; omega)
  all_goals have htl : (bs.take i).length = i := by rw [List.length_take]; omega
  all_goals first
    | (refine Leaf.mk ?_; have := hbl i; omega)
    | (refine Leaf.mk ?_; have := hbl i; unfold maxLen; omega)
    | (refine Leaf.mk ?_; omega)
    | (refine Leaf.mk ?_; unfold maxLen; omega)
    | (refine Leaf.mk (Exists.intro (i + 1) ⟨?_, by omega, by omega⟩)
       rw [take_at [] (show i < bs.length by omega)]; first | rfl | (rw [cp_all]; rfl))
    | (have hbt : bs.take i = bs := List.take_of_length_le (by omega)
       rw [hbt]; exact Leaf.mk rfl)
    | skip
def sIOwn : PSpec := ⟨[.d InT], [⟨true, [.o 9 .str, .o 3 (.int .i64), .o 32 (.slice MsgT)]⟩], fun x => IPre x.1, fun x => ((x.1.1, (x.1.2.1, (x.1.2.2, ()))), ())⟩
theorem fIOwn : FnOk Try.prog 30 := ⟨_, Try.func30, by decide, rfl⟩
theorem pIOwn : PSound Try.prog 30 sIOwn := by
  refine psound (T := tab) (S := (spOf [])) (keep := k30) (by kernel_rfl) tabOk spNil (by kernel_rfl) Try.func30 (by kernel_rfl) (by decide) fun xs hg hp => ?_
  obtain ⟨⟨ps, ks, bs⟩, ⟨⟩⟩ := xs
  clear hg
  change List (List UInt8) at ps
  change List Int at ks
  change List (List Msg) at bs
  change IPre (ps, ks, bs) at hp
  have hpp := hp.p
  have hpk := hp.k
  have hpb := hp.b
  have hbl := fun i => hp.bl i
  dsimp only at hpp hpk hpb hbl
  show vfun tab _ k30 Try.f30 [.agg [.sl .str ps, .sl (.int .i64) ks, .sl (.slice MsgT) bs]] [] _
  refine Ev.out ?_
  repeat' (first | ((with_reducible refine Ev.mk ?_); conv => whnf) | (with_reducible refine And.intro ?_ ?_) | (intro h))
  all_goals (try simp only [decide_eq_true_eq, decide_eq_false_iff_not, beq_iff_eq, bne_iff_ne, beq_eq_false_iff_ne, bne_eq_false_iff_eq, Int.toNat_natCast, ge_iff_le, gt_iff_lt, Bool.not_eq_true', Bool.not_eq_false', Int.not_lt, Int.not_le, ne_eq] at *)
  all_goals (try dsimp only [Ty.den, Ty.dflt, InT] at *)
  all_goals (try simp only [eq4, ne4, eq3, ne3, eq2, ne2, Prod.eta, List.length_cons, List.length_nil, List.length_append, Nat.zero_add] at *)
  all_goals (try simp (disch := omega) only [wrap64] at *)
  all_goals try first | exact leafDraw (by kernel_rfl) | exact Leaf.mk trivial | (refine Leaf.mk ?_; omega) | (refine Leaf.mk ?_; unfold maxLen; omega)
  rw [cp_all, cp_all]
  refine LoopVC.weak [(.cell 1 2, .nil 32 (.slice MsgT))] (fun i : Nat => [(29, .i .i64 i)]) (fun i => [(4, .arr 32 (.slice MsgT) (bs.take i))]) (fun i => i ≤ bs.length) (fun i => bs.length - i) 0 (Ev.mk ?_)
  (conv => whnf)
  refine ⟨Leaf.mk ?_, Leaf.mk ?_, ?_⟩
  · rfl
  · omega
  intro i hi
  repeat' (first | ((with_reducible refine Ev.mk ?_); conv => whnf) | (with_reducible refine And.intro ?_ ?_) | (intro h))
  all_goals (try simp only [decide_eq_true_eq, decide_eq_false_iff_not, beq_iff_eq, bne_iff_ne, beq_eq_false_iff_ne, bne_eq_false_iff_eq, Int.toNat_natCast, ge_iff_le, gt_iff_lt, Bool.not_eq_true', Bool.not_eq_false', Int.not_lt, Int.not_le, ne_eq] at *)
  all_goals (try dsimp only [Ty.den, Ty.dflt, InT] at *)
  all_goals (try simp only [eq4, ne4, eq3, ne3, eq2, ne2, Prod.eta, List.length_cons, List.length_nil, List.length_append, Nat.zero_add] at *)
  all_goals (try simp (disch := omega) only [wrap64] at *)
  all_goals try first | exact leafDraw (by kernel_rfl) | exact Leaf.mk trivial | (refine Leaf.mk ?_; omega) | (refine Leaf.mk ?_; unfold maxLen; omega)
  all_goals have htl : (bs.take i).length = i := by rw [List.length_take]; omega
  all_goals first
    | (refine Leaf.mk ?_; have := hbl i; omega)
    | (refine Leaf.mk ?_; have := hbl i; unfold maxLen; omega)
    | (refine Leaf.mk ?_; omega)
    | (refine Leaf.mk ?_; unfold maxLen; omega)
    | (refine Leaf.mk (Exists.intro (i + 1) ⟨?_, by omega, by omega⟩)
       rw [take_at [] (show i < bs.length by omega)]; first | rfl | (rw [cp_all]; rfl))
    | (have hbt : bs.take i = bs := List.take_of_length_le (by omega)
       rw [hbt]; exact Leaf.mk rfl)
    | skip
end Go.Proofs.Ytjifalccioebnaa

set_option linter.unusedVariables false
set_option linter.unusedSimpArgs false
set_option maxRecDepth 8000
set_option maxHeartbeats 4000000
namespace Go.Proofs.Ytjifalccioebnaa
open Go.Eng
def sIOwnD : PSpec := ⟨[.d InT], [⟨true, [.d InT]⟩], fun x => IPre x.1, fun x => ((x.1, ()), ())⟩
theorem fIOwnD : FnOk Try.prog 30 := ⟨_, Try.func30, by decide, rfl⟩
theorem pIOwnD : PSound Try.prog 30 sIOwnD := by
  refine psound (T := tab) (S := (spOf [])) (keep := k30) (by kernel_rfl) tabOk spNil (by kernel_rfl) Try.func30 (by kernel_rfl) (by decide) fun xs hg hp => ?_
  obtain ⟨⟨ps, ks, bs⟩, ⟨⟩⟩ := xs
  clear hg
  change List (List UInt8) at ps
  change List Int at ks
  change List (List Msg) at bs
  change IPre (ps, ks, bs) at hp
  have hpp := hp.p
  have hpk := hp.k
  have hpb := hp.b
  have hbl := fun i => hp.bl i
  dsimp only at hpp hpk hpb hbl
  show vfun tab _ k30 Try.f30 [.agg [.sl .str ps, .sl (.int .i64) ks, .sl (.slice MsgT) bs]] [] _
  refine Ev.out ?_
  repeat' (first | ((with_reducible refine Ev.mk ?_); conv => whnf) | (with_reducible refine And.intro ?_ ?_) | (intro h))
  all_goals (try simp only [decide_eq_true_eq, decide_eq_false_iff_not, beq_iff_eq, bne_iff_ne, beq_eq_false_iff_ne, bne_eq_false_iff_eq, Int.toNat_natCast, ge_iff_le, gt_iff_lt, Bool.not_eq_true', Bool.not_eq_false', Int.not_lt, Int.not_le, ne_eq] at *)
  all_goals (try dsimp only [Ty.den, Ty.dflt, InT] at *)
  all_goals (try simp only [eq4, ne4, eq3, ne3, eq2, ne2, Prod.eta, List.length_cons, List.length_nil, List.length_append, Nat.zero_add] at *)
  all_goals (try simp (disch := omega) only [wrap64] at *)
  all_goals try first | exact leafDraw (by kernel_rfl) | exact Leaf.mk trivial | (refine Leaf.mk ?_; omega) | (refine Leaf.mk ?_; unfold maxLen; omega)
  rw [cp_all, cp_all]
  refine LoopVC.weak [(.cell 1 2, .nil 32 (.slice MsgT))] (fun i : Nat => [(29, .i .i64 i)]) (fun i => [(4, .arr 32 (.slice MsgT) (bs.take i))]) (fun i => i ≤ bs.length) (fun i => bs.length - i) 0 (Ev.mk ?_)
  (conv => whnf)
  refine ⟨Leaf.mk ?_, Leaf.mk ?_, ?_⟩
  · rfl
  · omega
  intro i hi
  repeat' (first | ((with_reducible refine Ev.mk ?_); conv => whnf) | (with_reducible refine And.intro ?_ ?_) | (intro h))
  all_goals (try simp only [decide_eq_true_eq, decide_eq_false_iff_not, beq_iff_eq, bne_iff_ne, beq_eq_false_iff_ne, bne_eq_false_iff_eq, Int.toNat_natCast, ge_iff_le, gt_iff_lt, Bool.not_eq_true', Bool.not_eq_false', Int.not_lt, Int.not_le, ne_eq] at *)
  all_goals (try dsimp only [Ty.den, Ty.dflt, InT] at *)
  all_goals (try simp only [eq4, ne4, eq3, ne3, eq2, ne2, Prod.eta, List.length_cons, List.length_nil, List.length_append, Nat.zero_add] at *)
  all_goals (try simp (disch := omega) only [wrap64] at *)
  all_goals try first | exact leafDraw (by kernel_rfl) | exact Leaf.mk trivial | (refine Leaf.mk ?_; omega) | (refine Leaf.mk ?_; unfold maxLen; omega)
  all_goals have htl : (bs.take i).length = i := by rw [List.length_take]; omega
  all_goals first
    | (refine Leaf.mk ?_; have := hbl i; omega)
    | (refine Leaf.mk ?_; have := hbl i; unfold maxLen; omega)
    | (refine Leaf.mk ?_; omega)
    | (refine Leaf.mk ?_; unfold maxLen; omega)
    | (refine Leaf.mk (Exists.intro (i + 1) ⟨?_, by omega, by omega⟩)
       rw [take_at [] (show i < bs.length by omega)]; first | rfl | (rw [cp_all]; rfl))
    | (have hbt : bs.take i = bs := List.take_of_length_le (by omega)
       rw [hbt]; exact Leaf.mk rfl)
    | skip
def sHas : PSpec := ⟨[.d InT, .d (.int .i64)], [⟨false, [.d .bool]⟩], fun x => IPre x.1, fun x => ((hasI x.1 x.2.1, ()), ())⟩
theorem hasI_iff {n : Inn} {i : Int} : hasI n i = true ↔ wholeI n = true ∧ 0 ≤ i ∧ i < (n.2.1.length : Int) := decide_eq_true_iff
theorem fHas : FnOk Try.prog 31 := ⟨_, Try.func31, by decide, rfl⟩
theorem pHas : PSound Try.prog 31 sHas := by
  refine psound (T := tab) (S := (spOf [(34, sWhole.spec (lsOf []))])) (keep := k31) (by kernel_rfl) tabOk (spCons (pOk pWhole fWhole (by decide) lsNil) spNil) (by kernel_rfl) Try.func31 (by kernel_rfl) (by decide) fun xs hg hp => ?_
  obtain ⟨⟨ps, ks, bs⟩, i, ⟨⟩⟩ := xs
  clear hg
  change List (List UInt8) at ps
  change List Int at ks
  change List (List Msg) at bs
  change Int at i
  change IPre (ps, ks, bs) at hp
  have hpp := hp.p
  have hpk := hp.k
  have hpb := hp.b
  have hbl := fun i => hp.bl i
  dsimp only at hpp hpk hpb hbl
  show vfun tab _ k31 Try.f31 [.agg [.sl .str ps, .sl (.int .i64) ks, .sl (.slice MsgT) bs], .i .i64 i] [] _
  refine Ev.out ?_
  repeat' (first | ((with_reducible refine Ev.mk ?_); conv => whnf) | (with_reducible refine And.intro ?_ ?_) | (intro h))
  all_goals (try simp only [decide_eq_true_eq, decide_eq_false_iff_not, beq_iff_eq, bne_iff_ne, beq_eq_false_iff_ne, bne_eq_false_iff_eq, Int.toNat_natCast, ge_iff_le, gt_iff_lt, Bool.not_eq_true', Bool.not_eq_false', Int.not_lt, Int.not_le, ne_eq] at *)
  all_goals (try dsimp only [Ty.den, Ty.dflt, InT, sWhole] at *)
  all_goals (try simp only [eq4, ne4, eq3, ne3, eq2, ne2, Prod.eta, List.length_cons, List.length_nil, List.length_append, Nat.zero_add] at *)
  all_goals (try simp (disch := omega) only [wrap64] at *)
  all_goals try first | exact leafDraw (by kernel_rfl) | exact Leaf.mk trivial | (refine Leaf.mk ?_; omega) | (refine Leaf.mk ?_; unfold maxLen; omega)
  all_goals
    refine Leaf.mk (ret1 (show _ = hasI (ps, ks, bs) i from ?_))
    rw [Bool.eq_iff_iff, hasI_iff]
    dsimp only
    simp_all
  omega
theorem retTk {u v : List Msg × Inn} (h : u = v) : (some ((u.1, ()), (u.2, ()), ()) : Option ((List Msg × Unit) × (Inn × Unit) × Unit)) = some ((v.1, ()), (v.2, ()), ()) := by rw [h]
theorem retIn {u v : Inn} (h : u = v) : (some ((u, ()), ()) : Option ((Inn × Unit) × Unit)) = some ((v, ()), ()) := by rw [h]
theorem not_of_false {b : Bool} (h : b = false) : ¬ b = true := by rw [h]; simp
def sITake : PSpec := ⟨[.d InT, .d (.int .i64)], [⟨false, [.d (.slice MsgT)]⟩, ⟨true, [.d InT]⟩], fun x => IPre x.1, fun x => (((takeI x.1 x.2.1).1, ()), ((takeI x.1 x.2.1).2, ()), ())⟩
theorem fITake : FnOk Try.prog 8 := ⟨_, Try.func8, by decide, rfl⟩
theorem pITake : PSound Try.prog 8 sITake := by
  refine psound (T := tab) (S := (spOf [(30, sIOwn.spec (lsOf [])), (31, sHas.spec (lsOf []))])) (keep := k8) (by kernel_rfl) tabOk (spCons (pOk pIOwn fIOwn (by decide) lsNil) (spCons (pOk pHas fHas (by decide) lsNil) spNil)) (by kernel_rfl) Try.func8 (by kernel_rfl) (by decide) fun xs hg hp => ?_
  obtain ⟨⟨ps, ks, bs⟩, i, ⟨⟩⟩ := xs
  clear hg
  change List (List UInt8) at ps
  change List Int at ks
  change List (List Msg) at bs
  change Int at i
  change IPre (ps, ks, bs) at hp
  have hpp := hp.p
  have hpk := hp.k
  have hpb := hp.b
  have hbl := fun i => hp.bl i
  dsimp only at hpp hpk hpb hbl
  show vfun tab _ k8 Try.f8 [.agg [.sl .str ps, .sl (.int .i64) ks, .sl (.slice MsgT) bs], .i .i64 i] [] _
  refine Ev.out ?_
  repeat' (first | ((with_reducible refine Ev.mk ?_); conv => whnf) | (with_reducible refine And.intro ?_ ?_) | (intro h))
  all_goals (try simp only [decide_eq_true_eq, decide_eq_false_iff_not, beq_iff_eq, bne_iff_ne, beq_eq_false_iff_ne, bne_eq_false_iff_eq, Int.toNat_natCast, ge_iff_le, gt_iff_lt, Bool.not_eq_true', Bool.not_eq_false', Int.not_lt, Int.not_le, ne_eq] at *)
  all_goals (try dsimp only [Ty.den, Ty.dflt, InT, sIOwn, sHas] at *)
  all_goals (try simp only [eq4, ne4, eq3, ne3, eq2, ne2, Prod.eta, List.length_cons, List.length_nil, List.length_append, Nat.zero_add] at *)
  all_goals (try simp (disch := omega) only [wrap64] at *)
  all_goals try first | exact leafDraw (by kernel_rfl) | exact Leaf.mk trivial | (refine Leaf.mk ?_; omega) | (refine Leaf.mk ?_; unfold maxLen; omega)
  · refine Leaf.mk (retTk (u := ([], (ps, ks, bs))) (v := takeI (ps, ks, bs) i) ?_)
    rw [takeI, if_neg (not_of_false ‹_›)]
  all_goals
    obtain ⟨hw, hi0, hi1⟩ := hasI_iff.1 (show hasI (ps, ks, bs) i = true from ‹_›)
    obtain ⟨w1, w2⟩ := wholeI_iff.1 hw
    dsimp only at hi1 w1 w2
  all_goals first
    | (refine Leaf.mk ?_; omega)
    | (refine Leaf.mk (retTk (u := (bs.getD i.toNat [], (ps, ks, bs.set i.toNat []))) (v := takeI (ps, ks, bs) i) ?_)
       rw [takeI, if_pos ‹_›])
def sIRenew : PSpec := ⟨[.d InT, .d (.int .i64), .d (.int .i64)], [⟨true, [.d InT]⟩], fun x => IPre x.1, fun x => ((renewI x.1 x.2.1 x.2.2.1, ()), ())⟩
theorem fIRenew : FnOk Try.prog 16 := ⟨_, Try.func16, by decide, rfl⟩
theorem pIRenew : PSound Try.prog 16 sIRenew := by
  refine psound (T := tab) (S := (spOf [(30, sIOwn.spec (lsOf [])), (31, sHas.spec (lsOf []))])) (keep := k16) (by kernel_rfl) tabOk (spCons (pOk pIOwn fIOwn (by decide) lsNil) (spCons (pOk pHas fHas (by decide) lsNil) spNil)) (by kernel_rfl) Try.func16 (by kernel_rfl) (by decide) fun xs hg hp => ?_
  obtain ⟨n, i, kid, ⟨⟩⟩ := xs
  obtain ⟨ps, ks, bs⟩ := n
  clear hg
  change List (List UInt8) at ps
  change List Int at ks
  change List (List Msg) at bs
  change Int at i kid
  change IPre (ps, ks, bs) at hp
  have hpk := hp.k
  dsimp only at hpk
  show vfun tab _ k16 Try.f16 [.agg [.sl .str ps, .sl (.int .i64) ks, .sl (.slice MsgT) bs], .i .i64 i, .i .i64 kid] [] _
  refine Ev.out ?_
  repeat' (first | ((with_reducible refine Ev.mk ?_); conv => whnf) | (with_reducible refine And.intro ?_ ?_) | (intro h))
  all_goals (try simp only [decide_eq_true_eq, decide_eq_false_iff_not, beq_iff_eq, bne_iff_ne, beq_eq_false_iff_ne, bne_eq_false_iff_eq, Int.toNat_natCast, ge_iff_le, gt_iff_lt, Bool.not_eq_true', Bool.not_eq_false', Int.not_lt, Int.not_le, ne_eq] at *)
  all_goals (try dsimp only [Ty.den, Ty.dflt, InT, sIOwn, sHas] at *)
  all_goals (try simp only [eq4, ne4, eq3, ne3, eq2, ne2, Prod.eta, List.length_cons, List.length_nil, List.length_append, Nat.zero_add] at *)
  all_goals (try simp (disch := omega) only [wrap64] at *)
  all_goals try first | exact leafDraw (by kernel_rfl) | exact Leaf.mk trivial | (refine Leaf.mk ?_; omega) | (refine Leaf.mk ?_; unfold maxLen; omega)
  rotate_left 4
  · refine Leaf.mk (retIn (u := (ps, ks, bs)) (v := renewI (ps, ks, bs) i kid) ?_)
    rw [renewI, if_neg (not_of_false (show hasI (ps, ks, bs) i = false by assumption))]
  all_goals
    obtain ⟨hw, hi0, hi1⟩ := hasI_iff.1 (show hasI (ps, ks, bs) i = true from ‹_›)
    obtain ⟨w1, w2⟩ := wholeI_iff.1 hw
    dsimp only at hi1 w1 w2
  all_goals first
    | (refine Leaf.mk ?_; omega)
    | (refine Leaf.mk (retIn (u := (ps, ks.set i.toNat kid, bs)) (v := renewI (ps, ks, bs) i kid) ?_)
       rw [renewI, if_pos (show hasI (ps, ks, bs) i = true by assumption)])
theorem wrapHalf {n : Nat} (h : n ≤ 1000) : IntKind.i64.wrap ((n : Int).tdiv 2) = ((n / 2 : Nat) : Int) := by
  rw [Int.tdiv_eq_ediv_of_nonneg (by omega), show ((n : Int) / 2) = ((n / 2 : Nat) : Int) by omega]
  exact wrap64 (by omega)
theorem retSp {u v : Inn × Inn × List UInt8} (h : u = v) : (some ((u.1, ()), (u.2.1, ()), (u.2.2, ()), ()) : Option ((Inn × Unit) × (Inn × Unit) × (List UInt8 × Unit) × Unit)) = some ((v.1, ()), (v.2.1, ()), (v.2.2, ()), ()) := by rw [h]
theorem ipre_cut {ps : List (List UInt8)} {ks : List Int} {bs : List (List Msg)} (h : IPre (ps, ks, bs)) (a b c d e f : Nat) : IPre ((ps.take a).drop b, (ks.take c).drop d, (bs.take e).drop f) := by
  have hm := h.m
  dsimp only at hm
  have h1 := flat_le (xs := bs) e
  have h2 : ((bs.take e).drop f).flatten.length ≤ (bs.take e).flatten.length := by
    conv => rhs; rw [← List.take_append_drop f (bs.take e), List.flatten_append, List.length_append]
    omega
  have hp := h.p; have hk := h.k; have hb := h.b
  dsimp only at hp hk hb
  refine ⟨?_, fun p hp => h.pt p (List.mem_of_mem_take (List.mem_of_mem_drop hp)), ?_, ?_, ?_⟩
  · simp only [List.length_drop, List.length_take]; omega
  · simp only [List.length_drop, List.length_take]; omega
  · simp only [List.length_drop, List.length_take]; omega
  · dsimp only; omega
def sISplit : PSpec := ⟨[.d InT], [⟨true, [.d InT]⟩, ⟨true, [.d InT]⟩, ⟨false, [.d .str]⟩], fun x => IPre x.1, fun x => (((splitI x.1).1, ()), ((splitI x.1).2.1, ()), ((splitI x.1).2.2, ()), ())⟩
theorem fISplit : FnOk Try.prog 10 := ⟨_, Try.func10, by decide, rfl⟩
theorem pISplit : PSound Try.prog 10 sISplit := by
  refine psound (T := tab) (S := (spOf [(30, sIOwnD.spec (lsOf [])), (34, sWhole.spec (lsOf []))])) (keep := k10) (by kernel_rfl) tabOk (spCons (pOk pIOwnD fIOwnD (by decide) lsNil) (spCons (pOk pWhole fWhole (by decide) lsNil) spNil)) (by kernel_rfl) Try.func10 (by kernel_rfl) (by decide) fun xs hg hp => ?_
  obtain ⟨⟨ps, ks, bs⟩, ⟨⟩⟩ := xs
  clear hg
  change List (List UInt8) at ps
  change List Int at ks
  change List (List Msg) at bs
  change IPre (ps, ks, bs) at hp
  have hpp := hp.p
  have hpk := hp.k
  have hpb := hp.b
  have hbl := fun i => hp.bl i
  dsimp only at hpp hpk hpb hbl
  show vfun tab _ k10 Try.f10 [.agg [.sl .str ps, .sl (.int .i64) ks, .sl (.slice MsgT) bs]] [] _
  refine Ev.out ?_
  repeat' (first | ((with_reducible refine Ev.mk ?_); conv => whnf) | (with_reducible refine And.intro ?_ ?_) | (intro h))
  all_goals (try simp only [decide_eq_true_eq, decide_eq_false_iff_not, beq_iff_eq, bne_iff_ne, beq_eq_false_iff_ne, bne_eq_false_iff_eq, Int.toNat_natCast, ge_iff_le, gt_iff_lt, Bool.not_eq_true', Bool.not_eq_false', Int.not_lt, Int.not_le, ne_eq] at *)
  all_goals (try dsimp only [Ty.den, Ty.dflt, InT, sIOwnD, sWhole] at *)
  all_goals (try simp only [eq4, ne4, eq3, ne3, eq2, ne2, Prod.eta, List.length_cons, List.length_nil, List.length_append, Nat.zero_add] at *)
  all_goals (try simp (disch := omega) only [wrap64] at *)
  all_goals try first | exact leafDraw (by kernel_rfl) | exact Leaf.mk trivial | (refine Leaf.mk ?_; omega) | (refine Leaf.mk ?_; unfold maxLen; omega)
  all_goals first
    | exact Leaf.mk hp
    | exact Leaf.mk (ipre_cut hp _ _ _ _ _ _)
    | (refine Leaf.mk (retSp (u := ((ps, ks, bs), ([], [], []), [])) (v := splitI (ps, ks, bs)) ?_)
       rw [splitI, if_neg (fun hc => by have h1 := hc.1; rw [show wholeI (ps, ks, bs) = false by assumption] at h1; cases h1)]; done)
    | (refine Leaf.mk (retSp (u := ((ps, ks, bs), ([], [], []), [])) (v := splitI (ps, ks, bs)) ?_)
       rw [splitI, if_neg (fun hc => by have h1 := hc.2; dsimp only at h1; omega)]; done)
    | skip
  all_goals
    have hw := wholeI_iff.1 (show wholeI (ps, ks, bs) = true by assumption)
    have w1 := hw.1
    have w2 := hw.2
    dsimp only at w1 w2
    have e1 := wrapHalf (n := ks.length) (by omega)
    have e2 : IntKind.i64.wrap (((ks.length / 2 : Nat) : Int) - 1) = ((ks.length / 2 - 1 : Nat) : Int) := by rw [wrap64 (by omega)]; omega
    rw [e1]
    try rw [e2]
  all_goals first
    | (refine Leaf.mk ?_; omega)
    | (refine Leaf.mk ?_; unfold maxLen; omega)
    | skip
  all_goals
    refine Leaf.mk (retSp (u := ((_, _, _), (_, _, _), _)) (v := splitI (ps, ks, bs)) ?_)
    rw [splitI, if_pos ⟨by assumption, by dsimp only; omega⟩]
    simp only [Int.toNat_natCast, List.take_length, Int.toNat_zero, List.drop_zero]
    all_goals rfl
def wsum (l : List Msg) : Int := ((l.flatMap pm).length : Nat)
theorem wsum_at {l : List Msg} {j : Nat} (h : j < l.length) : wsum (l.take (j + 1)) = wsum (l.take j) + ((pm (l.getD j msg0)).length : Nat) := by
  rw [wsum, flat_at2 msg0 h, List.length_append, wsum]; omega
theorem wsum_le {l : List Msg} (h : l.length ≤ 5000) (j : Nat) : 0 ≤ wsum (l.take j) ∧ wsum (l.take j) ≤ 520000 := by
  have := pms_len (l.take j)
  have h2 : (l.take j).length ≤ 5000 := by rw [List.length_take]; omega
  have h3 : (l.take j).length * 104 ≤ 5000 * 104 := Nat.mul_le_mul_right _ h2
  rw [wsum]; omega
def sWeigh : PSpec := ⟨[.d InT, .d (.int .i64)], [⟨false, [.d (.int .i64)]⟩], fun x => IPre x.1, fun x => ((weighI x.1 x.2.1, ()), ())⟩
theorem fWeigh : FnOk Try.prog 24 := ⟨_, Try.func24, by decide, rfl⟩
theorem pWeigh : PSound Try.prog 24 sWeigh := by
  refine psound (T := tab) (S := (spOf [(31, sHas.spec (lsOf [])), (52, sMSize.spec (lsOf []))])) (keep := k24) (by kernel_rfl) tabOk (spCons (pOk pHas fHas (by decide) lsNil) (spCons (pOk pMSize fMSize (by decide) lsNil) spNil)) (by kernel_rfl) Try.func24 (by kernel_rfl) (by decide) fun xs hg hp => ?_
  obtain ⟨⟨ps, ks, bs⟩, i, ⟨⟩⟩ := xs
  clear hg
  change List (List UInt8) at ps
  change List Int at ks
  change List (List Msg) at bs
  change Int at i
  change IPre (ps, ks, bs) at hp
  have hpp := hp.p
  have hpk := hp.k
  have hpb := hp.b
  have hbl := fun i => hp.bl i
  dsimp only at hpp hpk hpb hbl
  show vfun tab _ k24 Try.f24 [.agg [.sl .str ps, .sl (.int .i64) ks, .sl (.slice MsgT) bs], .i .i64 i] [] _
  refine Ev.out ?_
  repeat' (first | ((with_reducible refine Ev.mk ?_); conv => whnf) | (with_reducible refine And.intro ?_ ?_) | (intro h))
  all_goals (try simp only [decide_eq_true_eq, decide_eq_false_iff_not, beq_iff_eq, bne_iff_ne, beq_eq_false_iff_ne, bne_eq_false_iff_eq, Int.toNat_natCast, ge_iff_le, gt_iff_lt, Bool.not_eq_true', Bool.not_eq_false', Int.not_lt, Int.not_le, ne_eq] at *)
  all_goals (try dsimp only [Ty.den, Ty.dflt, InT, sHas] at *)
  all_goals (try simp only [eq4, ne4, eq3, ne3, eq2, ne2, Prod.eta, List.length_cons, List.length_nil, List.length_append, Nat.zero_add] at *)
  all_goals (try simp (disch := omega) only [wrap64] at *)
  all_goals try first | exact leafDraw (by kernel_rfl) | exact Leaf.mk trivial | (refine Leaf.mk ?_; omega) | (refine Leaf.mk ?_; unfold maxLen; omega)
  · refine Leaf.mk (ret1 (show (0 : Int) = weighI (ps, ks, bs) i from ?_))
    rw [weighI, if_neg (not_of_false (show hasI (ps, ks, bs) i = false by assumption))]
  all_goals
    obtain ⟨hw, hi0, hi1⟩ := hasI_iff.1 (show hasI (ps, ks, bs) i = true from ‹_›)
    obtain ⟨w1, w2⟩ := wholeI_iff.1 hw
    dsimp only at hi1 w1 w2
  all_goals first
    | (refine Leaf.mk ?_; omega)
    | skip
  have hl := hbl i.toNat
  have hw : weighI (ps, ks, bs) i = wsum (bs.getD i.toNat []) := by rw [weighI, if_pos (show hasI (ps, ks, bs) i = true by assumption)]; rfl
  refine LoopVC.on (fun j : Nat => [(5, .i .i64 (wsum ((bs.getD i.toNat []).take j))), (18, .i .i64 j)]) (fun _ => []) (fun j => j ≤ (bs.getD i.toNat []).length) (fun j => (bs.getD i.toNat []).length - j) 0 rfl (by omega) ?_
  intro j hj
  have hsl := wsum_le hl j
  have hat := fun h => wsum_at (l := bs.getD i.toNat []) (j := j) h
  have hpl := pm_len ((bs.getD i.toNat []).getD j msg0)
  repeat' (first | ((with_reducible refine Ev.mk ?_); conv => whnf) | (with_reducible refine And.intro ?_ ?_) | (intro h))
  all_goals (try simp only [decide_eq_true_eq, decide_eq_false_iff_not, beq_iff_eq, bne_iff_ne, beq_eq_false_iff_ne, bne_eq_false_iff_eq, Int.toNat_natCast, ge_iff_le, gt_iff_lt, Bool.not_eq_true', Bool.not_eq_false', Int.not_lt, Int.not_le, ne_eq] at *)
  all_goals (try dsimp only [Ty.den, Ty.dflt, InT, sMSize] at *)
  all_goals (try simp only [eq4, ne4, eq3, ne3, eq2, ne2, Prod.eta, List.length_cons, List.length_nil, List.length_append, Nat.zero_add] at *)
  all_goals (try simp (disch := omega) only [wrap64] at *)
  all_goals try first | exact leafDraw (by kernel_rfl) | exact Leaf.mk trivial | (refine Leaf.mk ?_; omega) | (refine Leaf.mk ?_; unfold maxLen; omega)
  · have hpe : ((putR12 ((bs.getD i.toNat []).getD j msg0)).fst.length : Int) = ((pm ((bs.getD i.toNat []).getD j msg0)).length : Nat) := rfl
    refine Leaf.mk (Exists.intro (j + 1) ⟨?_, by omega, by omega⟩)
    rw [hat (by omega)]
    have e9 : IntKind.i64.wrap (wsum ((bs.getD i.toNat []).take j) + ((putR12 ((bs.getD i.toNat []).getD j msg0)).fst.length : Int)) = wsum ((bs.getD i.toNat []).take j) + ((pm ((bs.getD i.toNat []).getD j msg0)).length : Nat) := by rw [hpe]; exact wrap64 (by omega)
    erw [e9]; rfl
  · refine Leaf.mk (ret1 (show wsum ((bs.getD i.toNat []).take j) = weighI (ps, ks, bs) i from ?_))
    rw [hw, List.take_of_length_le (by omega)]
def sFullest : PSpec := ⟨[.d InT], [⟨false, [.d (.int .i64)]⟩], fun x => IPre x.1, fun x => ((fullestI x.1, ()), ())⟩
theorem fFullest : FnOk Try.prog 25 := ⟨_, Try.func25, by decide, rfl⟩
theorem pFullest : PSound Try.prog 25 sFullest := by
  refine psound (T := tab) (S := (spOf [(24, sWeigh.spec (lsOf []))])) (keep := k25) (by kernel_rfl) tabOk (spCons (pOk pWeigh fWeigh (by decide) lsNil) spNil) (by kernel_rfl) Try.func25 (by kernel_rfl) (by decide) fun xs hg hp => ?_
  obtain ⟨⟨ps, ks, bs⟩, ⟨⟩⟩ := xs
  clear hg
  change List (List UInt8) at ps
  change List Int at ks
  change List (List Msg) at bs
  change IPre (ps, ks, bs) at hp
  have hpp := hp.p
  have hpk := hp.k
  have hpb := hp.b
  have hbl := fun i => hp.bl i
  dsimp only at hpp hpk hpb hbl
  show vfun tab _ k25 Try.f25 [.agg [.sl .str ps, .sl (.int .i64) ks, .sl (.slice MsgT) bs]] [] _
  refine Ev.out ?_
  repeat' (first | ((with_reducible refine Ev.mk ?_); conv => whnf) | (with_reducible refine And.intro ?_ ?_) | (intro h))
  all_goals (try simp only [decide_eq_true_eq, decide_eq_false_iff_not, beq_iff_eq, bne_iff_ne, beq_eq_false_iff_ne, bne_eq_false_iff_eq, Int.toNat_natCast, ge_iff_le, gt_iff_lt, Bool.not_eq_true', Bool.not_eq_false', Int.not_lt, Int.not_le, ne_eq] at *)
  all_goals (try dsimp only [Ty.den, Ty.dflt, InT, sWeigh] at *)
  all_goals (try simp only [eq4, ne4, eq3, ne3, eq2, ne2, Prod.eta, List.length_cons, List.length_nil, List.length_append, Nat.zero_add] at *)
  all_goals (try simp (disch := omega) only [wrap64] at *)
  all_goals try first | exact leafDraw (by kernel_rfl) | exact Leaf.mk trivial | (refine Leaf.mk ?_; omega) | (refine Leaf.mk ?_; unfold maxLen; omega)
  refine LoopVC.on (fun i : Nat => [(3, .i .i64 (fullN (ps, ks, bs) i).1), (4, .i .i64 (fullN (ps, ks, bs) i).2), (10, .i .i64 i)]) (fun _ => []) (fun i => i ≤ ks.length) (fun i => ks.length - i) 0 rfl (by omega) ?_
  intro i hi
  repeat' (first | ((with_reducible refine Ev.mk ?_); conv => whnf) | (with_reducible refine And.intro ?_ ?_) | (intro h))
  all_goals (try simp only [decide_eq_true_eq, decide_eq_false_iff_not, beq_iff_eq, bne_iff_ne, beq_eq_false_iff_ne, bne_eq_false_iff_eq, Int.toNat_natCast, ge_iff_le, gt_iff_lt, Bool.not_eq_true', Bool.not_eq_false', Int.not_lt, Int.not_le, ne_eq] at *)
  all_goals (try dsimp only [Ty.den, Ty.dflt, InT, sWeigh] at *)
  all_goals (try simp only [eq4, ne4, eq3, ne3, eq2, ne2, Prod.eta, List.length_cons, List.length_nil, List.length_append, Nat.zero_add] at *)
  all_goals (try simp (disch := omega) only [wrap64] at *)
  all_goals try first | exact leafDraw (by kernel_rfl) | exact Leaf.mk trivial | (refine Leaf.mk ?_; omega) | (refine Leaf.mk ?_; unfold maxLen; omega)
  all_goals first
    | exact Leaf.mk hp
    | (refine Leaf.mk (Exists.intro (i + 1) ⟨?_, by omega, by omega⟩)
       rw [fullN, if_pos (show weighI (ps, ks, bs) i > (fullN (ps, ks, bs) i).2 by assumption)]; rfl)
    | (refine Leaf.mk (Exists.intro (i + 1) ⟨?_, by omega, by omega⟩)
       rw [fullN, if_neg (show ¬ weighI (ps, ks, bs) i > (fullN (ps, ks, bs) i).2 by omega)]; rfl)
    | (refine Leaf.mk (ret1 (show (fullN (ps, ks, bs) i).1 = fullestI (ps, ks, bs) from ?_))
       obtain rfl : i = ks.length := by omega
       rfl)
    | skip
theorem retBo {a b c d : List UInt8} (h1 : a = c) (h2 : b = d) : (some ((a, ()), (b, ()), ()) : Option ((List UInt8 × Unit) × (List UInt8 × Unit) × Unit)) = some ((c, ()), (d, ()), ()) := by rw [h1, h2]
def sBounds : PSpec := ⟨[.d InT, .d (.int .i64)], [⟨false, [.d .str]⟩, ⟨false, [.d .str]⟩], fun x => IPre x.1, fun x => ((loI x.1 x.2.1, ()), (hiI x.1 x.2.1, ()), ())⟩
theorem fBounds : FnOk Try.prog 23 := ⟨_, Try.func23, by decide, rfl⟩
theorem pBounds : PSound Try.prog 23 sBounds := by
  refine psound (T := tab) (S := (spOf [])) (keep := k23) (by kernel_rfl) tabOk spNil (by kernel_rfl) Try.func23 (by kernel_rfl) (by decide) fun xs hg hp => ?_
  obtain ⟨⟨ps, ks, bs⟩, i, ⟨⟩⟩ := xs
  clear hg
  change List (List UInt8) at ps
  change List Int at ks
  change List (List Msg) at bs
  change Int at i
  change IPre (ps, ks, bs) at hp
  have hpp := hp.p
  have hpk := hp.k
  have hpb := hp.b
  have hbl := fun i => hp.bl i
  dsimp only at hpp hpk hpb hbl
  show vfun tab _ k23 Try.f23 [.agg [.sl .str ps, .sl (.int .i64) ks, .sl (.slice MsgT) bs], .i .i64 i] [] _
  refine Ev.out ?_
  repeat' (first | ((with_reducible refine Ev.mk ?_); conv => whnf) | (with_reducible refine And.intro ?_ ?_) | (intro h))
  all_goals (try simp only [decide_eq_true_eq, decide_eq_false_iff_not, beq_iff_eq, bne_iff_ne, beq_eq_false_iff_ne, bne_eq_false_iff_eq, Int.toNat_natCast, ge_iff_le, gt_iff_lt, Bool.not_eq_true', Bool.not_eq_false', Int.not_lt, Int.not_le, ne_eq] at *)
  all_goals (try dsimp only [Ty.den, Ty.dflt, InT] at *)
  all_goals (try simp only [eq4, ne4, eq3, ne3, eq2, ne2, Prod.eta, List.length_cons, List.length_nil, List.length_append, Nat.zero_add] at *)
  all_goals (try simp (disch := omega) only [wrap64] at *)
  all_goals try first | exact leafDraw (by kernel_rfl) | exact Leaf.mk trivial | (refine Leaf.mk ?_; omega) | (refine Leaf.mk ?_; unfold maxLen; omega)
  all_goals
    have hlo : 0 < i ∧ i < (ks.length : Int) ∧ i ≤ (ps.length : Int) → loI (ps, ks, bs) i = ps.getD (i - 1).toNat [] := fun h => by rw [loI, if_pos h, show (i - 1).toNat = i.toNat - 1 by omega]
    have hlo2 : ¬ (0 < i ∧ i < (ks.length : Int) ∧ i ≤ (ps.length : Int)) → loI (ps, ks, bs) i = [] := fun h => by rw [loI, if_neg h]
    have hhi : 0 ≤ i ∧ i < (ks.length : Int) ∧ i < (ps.length : Int) → hiI (ps, ks, bs) i = ps.getD i.toNat [] := fun h => by rw [hiI, if_pos h]
    have hhi2 : ¬ (0 ≤ i ∧ i < (ks.length : Int) ∧ i < (ps.length : Int)) → hiI (ps, ks, bs) i = [] := fun h => by rw [hiI, if_neg h]
  all_goals first
    | exact Leaf.mk (retBo (a := []) (b := []) (c := loI (ps, ks, bs) i) (d := hiI (ps, ks, bs) i) (hlo2 (by omega)).symm (hhi2 (by omega)).symm)
    | exact Leaf.mk (retBo (a := ps.getD (i - 1).toNat []) (b := ps.getD i.toNat []) (c := loI (ps, ks, bs) i) (d := hiI (ps, ks, bs) i) (hlo (by omega)).symm (hhi (by omega)).symm)
    | exact Leaf.mk (retBo (a := ps.getD (i - 1).toNat []) (b := []) (c := loI (ps, ks, bs) i) (d := hiI (ps, ks, bs) i) (hlo (by omega)).symm (hhi2 (by omega)).symm)
    | exact Leaf.mk (retBo (a := []) (b := ps.getD i.toNat []) (c := loI (ps, ks, bs) i) (d := hiI (ps, ks, bs) i) (hlo2 (by omega)).symm (hhi (by omega)).symm)
    | skip
end Go.Proofs.Ytjifalccioebnaa

set_option linter.unusedVariables false
set_option linter.unusedSimpArgs false
set_option maxRecDepth 8000
set_option maxHeartbeats 4000000
namespace Go.Proofs.Ytjifalccioebnaa
open Go.Proofs Go.Eng
open Go.RowKit (Below)
section
variable {P : Program} {w w' : World}
theorem wp_append_view {o : Oper} {a : Act} {K : Act → World → Prop} {Q : Exit → Act → World → Prop} (s x : Operand) (t : TypeId)
    (ho : o.op = .call { callee := .builtin .append, args := #[s, x], argTypes := #[t, t] })
    {te : TypeId} {e : Ty} {inf : TypeInfo} {z : Value} {bytes : Nat} (g1 : P.underlying t = some (.slice te)) (g2 : P.info? te = some inf) (g5 : inf.zero = some z) (g3 : inf.size = e.cells) (g4 : inf.bytes = bytes) (g8 : z.cells.size = e.cells) (g7 : 0 < e.cells)
    {base n : Nat} {v xv : Value} {cells ncells : List Value} {ys : List e.den} {A : Option Addr} {cap : Nat} {F : Nat → Prop} (hs : a.eval s = v) (hx : a.eval x = xv) (hown : w.ownsRow base te e.cells v n cells) (q : View w F e ys xv A cap ncells)
    (hb : (n + ys.length) * bytes ≤ 140737488355328) (hm : n + ys.length ≤ maxLen) (hbase : base ≤ w.heap.size)
    (h : ∀ v' w', w'.ownsRow base te e.cells v' (n + ys.length) (cells ++ ncells) → w.grownBy w' v.ownBlock → (v'.ownBlock = v.ownBlock ∨ v'.ownBlock = some w.heap.size) → K (a.put o.dst v') w') : o.wp P a w K Q := by
  obtain ⟨v', w', hr, h2, h3, h5⟩ := run_append_view (P := P) (ty := o.type) g1 g2 g3 g4 g5 g7 g8 hown q hb hm hbase
  unfold Oper.wp execOp
  simp only [ho, resolve, invoke, builtin, Sem.run_bind, Sem.run_pure, Result.andThen_ok, List.map_toArray, List.map_cons, List.map_nil, hs, hx, hr]
  exact h v' w' h2 h3 h5
theorem wpList_append_view {ops : Array Oper} {rest : List Oper} {o : Oper} {a : Act} {Q : Exit → Act → World → Prop} (hgd : o.guard = none) (s x : Operand) (t : TypeId)
    (ho : o.op = .call { callee := .builtin .append, args := #[s, x], argTypes := #[t, t] })
    {te : TypeId} {e : Ty} {inf : TypeInfo} {z : Value} {bytes : Nat} (g1 : P.underlying t = some (.slice te)) (g2 : P.info? te = some inf) (g5 : inf.zero = some z) (g3 : inf.size = e.cells) (g4 : inf.bytes = bytes) (g8 : z.cells.size = e.cells) (g7 : 0 < e.cells)
    {base n : Nat} {v xv : Value} {cells ncells : List Value} {ys : List e.den} {A : Option Addr} {cap : Nat} {F : Nat → Prop} (hs : a.eval s = v) (hx : a.eval x = xv) (hown : w.ownsRow base te e.cells v n cells) (q : View w F e ys xv A cap ncells)
    (hb : (n + ys.length) * bytes ≤ 140737488355328) (hm : n + ys.length ≤ maxLen) (hbase : base ≤ w.heap.size)
    (h : ∀ v' w', w'.ownsRow base te e.cells v' (n + ys.length) (cells ++ ncells) → w.grownBy w' v.ownBlock → (v'.ownBlock = v.ownBlock ∨ v'.ownBlock = some w.heap.size) → wpList P ops Q rest (a.put o.dst v') w') : wpList P ops Q (o :: rest) a w :=
  wpList_plain hgd fun _ hK => wp_append_view s x t ho g1 g2 g5 g3 g4 g8 g7 hs hx hown q hb hm hbase fun v' w' h2 h3 h4 => hK _ _ (h v' w' h2 h3 h4)
theorem step_append_view {ops : Array Oper} {o : Oper} {a : Act} {K : Act → World → Prop} {Q : Exit → Act → World → Prop} {E : Prop} (hgd : o.guard = none) (s x : Operand) (t : TypeId)
    (ho : o.op = .call { callee := .builtin .append, args := #[s, x], argTypes := #[t, t] })
    {te : TypeId} {e : Ty} {inf : TypeInfo} {z : Value} {bytes : Nat} (g1 : P.underlying t = some (.slice te)) (g2 : P.info? te = some inf) (g5 : inf.zero = some z) (g3 : inf.size = e.cells) (g4 : inf.bytes = bytes) (g8 : z.cells.size = e.cells) (g7 : 0 < e.cells)
    {base n : Nat} {v xv : Value} {cells ncells : List Value} {ys : List e.den} {A : Option Addr} {cap : Nat} {F : Nat → Prop} (hs : a.eval s = v) (hx : a.eval x = xv) (hown : w.ownsRow base te e.cells v n cells) (q : View w F e ys xv A cap ncells)
    (hb : (n + ys.length) * bytes ≤ 140737488355328) (hm : n + ys.length ≤ maxLen) (hbase : base ≤ w.heap.size)
    (h : ∀ v' w', w'.ownsRow base te e.cells v' (n + ys.length) (cells ++ ncells) → w.grownBy w' v.ownBlock → (v'.ownBlock = v.ownBlock ∨ v'.ownBlock = some w.heap.size) → K (a.put o.dst v') w') :
    if Region.wanted o (yielded ops a.tmps) = true then Oper.wp P o a w K Q else E := by
  have hw : Region.wanted o (yielded ops a.tmps) = true := by simp [Region.wanted, hgd]
  rw [if_pos hw]
  exact wp_append_view s x t ho g1 g2 g5 g3 g4 g8 g7 hs hx hown q hb hm hbase h
theorem view_grown {F F' : Nat → Prop} {e : Ty} (he : e.flat = true) {xs : List e.den} {x : Value} {A : Option Addr} {cap : Nat} {cells : List Value} (q : View w F e xs x A cap cells) {row : Option Nat} (hg : w.grownBy w' row) (hne : ∀ ad, A = some ad → some ad.block ≠ row) : View w' F' e xs x A cap cells :=
  ⟨q.val, reps_flat e he _ _ q.rows, q.le, q.max, q.nil, fun ad hA j u hu => by
    have := q.cell ad hA j u hu
    exact hg.cell this (by rw [add_block]; exact hne ad hA), fun ad hA hx => Nat.lt_of_lt_of_le (q.blk ad hA hx) hg.size⟩
theorem view_below {F F' : Nat → Prop} {e : Ty} (he : e.flat = true) {xs : List e.den} {x : Value} {A : Option Addr} {cap : Nat} {cells : List Value} (q : View w F e xs x A cap cells) (hg : Below w.heap.size w w') : View w' F' e xs x A cap cells :=
  view_grown he q (row := none) ⟨hg.os, hg.tape, hg.output, hg.size, fun k hk _ => hg.block k hk⟩ (by simp)

structure Nest (w : World) (b : Nat) (tr te : TypeId) (E : Ty) (v : Value) (rv : List Value) (R : List (List E.den)) : Prop where
  top : w.ownsRow b tr 1 v rv.length rv
  len : rv.length = R.length
  row : ∀ (i : Nat) (r : Value) (c : List E.den), rv[i]? = some r → R[i]? = some c → ∃ cells, w.ownsRow b te E.cells r c.length cells ∧ reps w (fun _ => False) E c cells
  one : ∀ (i j : Nat) (r s : Value) (k : Nat), rv[i]? = some r → rv[j]? = some s → r.ownBlock = some k → s.ownBlock = some k → i = j
  far : ∀ (i : Nat) (r : Value) (k : Nat), rv[i]? = some r → r.ownBlock = some k → v.ownBlock ≠ some k
variable {b : Nat} {tr te : TypeId} {E : Ty} {v : Value} {rv : List Value} {R : List (List E.den)}
theorem Nest.nil (w : World) (b : Nat) (tr te : TypeId) (E : Ty) : Nest w b tr te E (.slice none 0 0) [] [] :=
  ⟨World.ownsRow_nil w b tr 1, rfl, fun i r c h => by simp at h, fun i j r s k h => by simp at h, fun i r k h => by simp at h⟩
theorem Nest.at (h : Nest w b tr te E v rv R) {i : Nat} (hi : i < rv.length) : ∃ r c cells, rv[i]? = some r ∧ R[i]? = some c ∧ w.ownsRow b te E.cells r c.length cells ∧ reps w (fun _ => False) E c cells := by
  have h2 : i < R.length := by rw [← h.len]; exact hi
  obtain ⟨cells, h3, h4⟩ := h.row i _ _ (List.getElem?_eq_getElem hi) (List.getElem?_eq_getElem h2)
  exact ⟨_, _, cells, List.getElem?_eq_getElem hi, List.getElem?_eq_getElem h2, h3, h4⟩
theorem Nest.blk (h : Nest w b tr te E v rv R) {i k : Nat} {r : Value} (hi : rv[i]? = some r) (hk : r.ownBlock = some k) : b ≤ k ∧ k < w.heap.size := by
  obtain ⟨r', c, cells, h1, h2, h3, _⟩ := h.at (List.getElem?_eq_some_iff.1 hi).1
  rw [hi] at h1
  simp only [Option.some.injEq] at h1
  subst h1
  exact h3.lt k hk
theorem Nest.kept (he : E.flat = true) (h : Nest w b tr te E v rv R) {row : Option Nat} (hg : w.grownBy w' row) (h1 : v.ownBlock = none ∨ v.ownBlock ≠ row) (h2 : ∀ (i : Nat) (r : Value), rv[i]? = some r → r.ownBlock = none ∨ r.ownBlock ≠ row) : Nest w' b tr te E v rv R :=
  ⟨h.top.kept hg h1, h.len, fun i r c hi hc => by
    obtain ⟨cells, h3, h4⟩ := h.row i r c hi hc
    exact ⟨cells, h3.kept hg (h2 i r hi), reps_flat E he _ _ h4⟩, h.one, h.far⟩
theorem Nest.low (he : E.flat = true) (h : Nest w b tr te E v rv R) {row : Option Nat} (hg : w.grownBy w' row) (hr : ∀ k, row = some k → k < b) : Nest w' b tr te E v rv R := by
  refine h.kept he hg ?_ fun i r hi => ?_
  · cases hv : v.ownBlock with
    | none => exact .inl rfl
    | some k =>
      refine .inr fun hh => ?_
      have := (h.top.lt k hv).1
      have := hr k hh.symm
      omega
  · cases hv : r.ownBlock with
    | none => exact .inl rfl
    | some k =>
      refine .inr fun hh => ?_
      have := (h.blk hi hv).1
      have := hr k hh.symm
      omega
theorem Nest.below (he : E.flat = true) (h : Nest w b tr te E v rv R) (hg : Below w.heap.size w w') : Nest w' b tr te E v rv R :=
  h.low he (row := none) ⟨hg.os, hg.tape, hg.output, hg.size, fun k hk _ => hg.block k hk⟩ (by simp)
theorem Nest.mono (h : Nest w b tr te E v rv R) {b' : Nat} (hb : b' ≤ b) : Nest w b' tr te E v rv R :=
  ⟨h.top.mono hb, h.len, fun i r c hi hc => by
    obtain ⟨cells, h3, h4⟩ := h.row i r c hi hc
    exact ⟨cells, h3.mono hb, h4⟩, h.one, h.far⟩
theorem Nest.push (he : E.flat = true) (h : Nest w b tr te E v rv R) {r v' : Value} {c : List E.den} {cells : List Value} (hr : w.ownsRow b te E.cells r c.length cells) (hc : reps w (fun _ => False) E c cells)
    (hfar : ∀ k, r.ownBlock = some k → v.ownBlock ≠ some k ∧ ∀ (i : Nat) (s : Value), rv[i]? = some s → s.ownBlock ≠ some k) (hown : w'.ownsRow b tr 1 v' (rv.length + 1) (rv ++ [r])) (hg : w.grownBy w' v.ownBlock) (hat : v'.ownBlock = v.ownBlock ∨ v'.ownBlock = some w.heap.size) :
    Nest w' b tr te E v' (rv ++ [r]) (R ++ [c]) := by
  have rowne : ∀ (s : Value) (k : Nat), s.ownBlock = some k → v.ownBlock ≠ some k → s.ownBlock = none ∨ s.ownBlock ≠ v.ownBlock := fun s k hs hv => .inr fun hh => hv (hh ▸ hs)
  have split : ∀ (i : Nat) (s : Value), (rv ++ [r])[i]? = some s → rv[i]? = some s ∨ (i = rv.length ∧ s = r) := fun i s hs => by
    rw [List.getElem?_append] at hs
    split at hs
    · exact .inl hs
    · rename_i hi
      have : i - rv.length = 0 := by have := (List.getElem?_eq_some_iff.1 hs).1; simp at this; omega
      rw [this] at hs
      simp at hs
      exact .inr ⟨by omega, hs.symm⟩
  refine ⟨by rw [List.length_append]; exact hown, by simp [h.len], fun i s d hs hd => ?_, fun i j s u k hi hj hs hu => ?_, fun i s k hi hs => ?_⟩
  · rcases split i s hs with hs | ⟨rfl, rfl⟩
    · have hi := (List.getElem?_eq_some_iff.1 hs).1
      rw [List.getElem?_append_left (by rw [← h.len]; exact hi)] at hd
      obtain ⟨cl, h3, h4⟩ := h.row i s d hs hd
      refine ⟨cl, h3.kept hg ?_, reps_flat E he _ _ h4⟩
      cases hk : s.ownBlock with
      | none => exact .inl rfl
      | some k => exact hk ▸ rowne s k hk (h.far i s k hs hk)
    · rw [h.len, List.getElem?_append_right (Nat.le_refl _)] at hd
      simp at hd
      subst hd
      refine ⟨cells, hr.kept hg ?_, reps_flat E he _ _ hc⟩
      cases hk : s.ownBlock with
      | none => exact .inl rfl
      | some k => exact hk ▸ rowne s k hk (hfar k hk).1
  · rcases split i s hi with hi1 | ⟨hi1, rfl⟩ <;> rcases split j u hj with hj1 | ⟨hj1, rfl⟩
    · exact h.one i j s u k hi1 hj1 hs hu
    · exact absurd hs ((hfar k hu).2 i s hi1)
    · exact absurd hu ((hfar k hs).2 j u hj1)
    · omega
  · have hk : v.ownBlock ≠ some k ∧ k < w.heap.size := by
      rcases split i s hi with hi | ⟨rfl, rfl⟩
      · exact ⟨h.far i s k hi hs, (h.blk hi hs).2⟩
      · exact ⟨(hfar k hs).1, (hr.lt k hs).2⟩
    rcases hat with h1 | h1
    · rw [h1]; exact hk.1
    · rw [h1]
      intro hh
      simp at hh
      omega
theorem Nest.swap (he : E.flat = true) {g n cap : Nat} (h : Nest w b tr te E (.slice (some ⟨g, 0, none⟩) n cap) rv R) {i : Nat} {r r' : Value} {c : List E.den} {cells : List Value} (hi : rv[i]? = some r) (hg : w.grownBy w' r.ownBlock)
    (hown : w'.ownsRow b te E.cells r' c.length cells) (hc : reps w' (fun _ => False) E c cells) (hat : r'.ownBlock = r.ownBlock ∨ r'.ownBlock = some w.heap.size) :
    Nest (w'.setCell ⟨g, i, none⟩ r') b tr te E (.slice (some ⟨g, 0, none⟩) n cap) (rv.set i r') (R.set i c) := by
  have hgl := h.top.lt g rfl
  have rblk : ∀ k, r.ownBlock = some k → k < w.heap.size ∧ k ≠ g := fun k hk => ⟨(h.blk hi hk).2, fun hh => h.far i r k hi hk (by subst hh; rfl)⟩
  have r'blk : ∀ k, r'.ownBlock = some k → k ≠ g ∧ (r.ownBlock = some k ∨ k = w.heap.size) := fun k hk => by
    rcases hat with h1 | h1
    · rw [h1] at hk; exact ⟨(rblk k hk).2, .inl hk⟩
    · rw [h1] at hk
      simp only [Option.some.injEq] at hk
      exact ⟨by omega, .inr hk.symm⟩
  have other : ∀ (j : Nat) (s : Value) (k : Nat), j ≠ i → rv[j]? = some s → s.ownBlock = some k → k ≠ g ∧ k < w.heap.size ∧ r.ownBlock ≠ some k := fun j s k hj hs hk =>
    ⟨fun hh => h.far j s k hs hk (by subst hh; rfl), (h.blk hs hk).2, fun hh => hj (h.one j i s r k hs hi hk hh)⟩
  have htop : w'.ownsRow b tr 1 (.slice (some ⟨g, 0, none⟩) n cap) rv.length rv := h.top.kept hg (.inr fun hh => (rblk g hh.symm).2 rfl)
  have hn : rv.length = n := by
    rcases h.top.2 with ⟨h1, _⟩ | ⟨g', cap', cur, h1, _⟩
    · simp at h1
    · simp only [Value.slice.injEq] at h1; exact h1.2.1.symm
  have split : ∀ (j : Nat) (s : Value), (rv.set i r')[j]? = some s → (j ≠ i ∧ rv[j]? = some s) ∨ (j = i ∧ s = r') := fun j s hs => by
    rw [List.getElem?_set] at hs
    split at hs
    · rename_i hij
      split at hs
      · simp at hs; exact .inr ⟨hij.symm, hs.symm⟩
      · simp at hs
    · rename_i hij
      exact .inl ⟨fun hh => hij hh.symm, hs⟩
  have hst := htop
  rw [hn] at hst
  have hset := hst.stored i r'
  have gs : w'.grownBy (w'.setCell ⟨g, i, none⟩ r') (some g) := hset.2
  refine ⟨by rw [List.length_set, hn]; exact hset.1, by simp [h.len], fun j s d hs hd => ?_, fun j l s u k hj hl hs hu => ?_, fun j s k hj hs => ?_⟩
  · rcases split j s hs with ⟨hj, hs⟩ | ⟨rfl, rfl⟩
    · rw [List.getElem?_set_ne (fun hh => hj hh.symm)] at hd
      obtain ⟨cl, h3, h4⟩ := h.row j s d hs hd
      refine ⟨cl, (h3.kept hg ?_).kept gs ?_, reps_flat E he _ _ h4⟩
      · cases hk : s.ownBlock with
        | none => exact .inl rfl
        | some k => exact .inr fun hh => (other j s k hj hs hk).2.2 hh.symm
      · cases hk : s.ownBlock with
        | none => exact .inl rfl
        | some k => exact .inr fun hh => (other j s k hj hs hk).1 (by simpa using hh)
    · have hjl := (List.getElem?_eq_some_iff.1 hi).1
      rw [List.getElem?_set_self (by rw [← h.len]; exact hjl)] at hd
      simp only [Option.some.injEq] at hd
      subst hd
      refine ⟨cells, hown.kept gs ?_, reps_flat E he _ _ hc⟩
      cases hk : s.ownBlock with
      | none => exact .inl rfl
      | some k => exact .inr fun hh => (r'blk k hk).1 (by simpa using hh)
  · rcases split j s hj with ⟨hj1, hj'⟩ | ⟨hj1, rfl⟩ <;> rcases split l u hl with ⟨hl1, hl'⟩ | ⟨hl1, rfl⟩
    · exact h.one j l s u k hj' hl' hs hu
    · exfalso
      obtain ⟨_, q2, q3⟩ := other j s k hj1 hj' hs
      rcases (r'blk k hu).2 with q | q
      · exact q3 q
      · omega
    · exfalso
      obtain ⟨_, q2, q3⟩ := other l u k hl1 hl' hu
      rcases (r'blk k hs).2 with q | q
      · exact q3 q
      · omega
    · omega
  · intro hh
    have hkg : g = k := by simpa [Value.ownBlock] using hh
    subst hkg
    rcases split j s hj with ⟨hj, hj'⟩ | ⟨rfl, rfl⟩
    · exact (other j s g hj hj' hs).1 rfl
    · exact (r'blk g hs).1 rfl
theorem rep_own {F : Nat → Prop} {e : Ty} {base : Nat} {x : Value} {xs : List e.den} {cells : List Value} (h : w.ownsRow base te e.cells x xs.length cells) (hr : reps w F e xs cells) (hF : ∀ k, x.ownBlock = some k → F k) : rep w F (.slice e) xs [x] := by
  rcases h.2 with ⟨rfl, hn⟩ | ⟨g, cap, cur, rfl, _, hg, hnc, hm, hcs, htk⟩
  · have : xs = [] := List.eq_nil_of_length_eq_zero hn
    subst this
    simp only [rep]
    exact ⟨none, 0, rfl, by simp, by simp, fun _ => rfl, fun i hi => by simp at hi⟩
  · exact rep_of_rows hr (hF g rfl) hnc hm (h.cells (g := g) rfl)
theorem Nest.rep (he : E.flat = true) (h : Nest w b tr te E v rv R) {F : Nat → Prop} (hF : ∀ k, b ≤ k → k < w.heap.size → F k) : Eng.rep w F (.slice (.slice E)) R [v] := by
  have hrows : ∀ (rv : List Value) (R : List (List E.den)), rv.length = R.length → (∀ (i : Nat) (r : Value) (c : List E.den), rv[i]? = some r → R[i]? = some c → ∃ cells, w.ownsRow b te E.cells r c.length cells ∧ reps w (fun _ => False) E c cells) → reps w F (.slice E) R rv := by
    intro rv
    induction rv with
    | nil =>
      intro R hl _
      have : R = [] := List.eq_nil_of_length_eq_zero (by simpa using hl.symm)
      subst this
      rfl
    | cons r rv ih =>
      intro R hl hh
      cases R with
      | nil => simp at hl
      | cons c R =>
        obtain ⟨cells, h3, h4⟩ := hh 0 r c rfl rfl
        exact ⟨[r], rv, rfl, rep_own h3 (reps_flat E he _ _ h4) (fun k hk => hF k (h3.lt k hk).1 (h3.lt k hk).2), ih R (by simpa using hl) fun i r' c' hr hc => hh (i + 1) r' c' (by simpa using hr) (by simpa using hc)⟩
  have ht := h.top
  rw [h.len] at ht
  exact rep_own (e := .slice E) ht (hrows rv R h.len h.row) fun k hk => hF k (ht.lt k hk).1 (ht.lt k hk).2
end
end Go.Proofs.Ytjifalccioebnaa
