import Derived.Test.YtcgfolhnoggjfaaJ6
import Derived.Test.YtcgfolhnoggjfaaEng4



set_option linter.unusedVariables false
set_option linter.unusedSimpArgs false
set_option maxRecDepth 8000
set_option maxHeartbeats 4000000
namespace Go.Proofs.Ytcgfolhnoggjfaa
open Go.Eng
abbrev BT : Ty := .slice (.int .u8)
/-- The next one of its length. -/
def incI : List Int → Option (List Int)
  | [] => none
  | c :: r => match incI r with
    | some r' => some (c :: r')
    | none => if c = 255 then none else some ((c + 1) :: List.replicate r.length 0)
def aftI (a : List Int) (n : Nat) : Option (List Int) := if a.length < n then some (a ++ List.replicate (n - a.length) 0) else incI (a.take n)
def aftF (a : Str) (n : Nat) : Str × Bool := match aftI (bytesOfStr a) n with
  | some x => (strOfBytes x, true)
  | none => ([], false)
theorem incI_snoc (c : Int) : ∀ (Y : List Int), incI (Y ++ [c]) = if c = 255 then (incI Y).map (· ++ [0]) else some (Y ++ [c + 1])
  | [] => by
    show (match incI [] with | some r' => some (c :: r') | none => _) = _
    simp [incI]
  | x :: Y => by
    have ih := incI_snoc c Y
    rw [List.cons_append, incI, ih]
    by_cases h : c = 255
    · rw [if_pos h, if_pos h, incI]
      cases e : incI Y with
      | none =>
        simp only [Option.map_none]
        split
        · rfl
        · simp [List.replicate_succ']
      | some r => simp
    · rw [if_neg h, if_neg h]; rfl
/-- The bytes from the m-th on were 255 and turned. -/
def IncAt (X : List Int) (n m : Nat) : Prop := incI X = (incI (X.take m)).map (· ++ List.replicate (n - m) 0)
def curI (X : List Int) (n m : Nat) : List Int := X.take m ++ List.replicate (n - m) 0
theorem curI_len {X : List Int} {n m : Nat} (hX : X.length = n) (h : m ≤ n) : (curI X n m).length = n := by
  rw [curI, List.length_append, List.length_take, List.length_replicate]; omega
theorem curI_get {X : List Int} {n m : Nat} (hX : X.length = n) (h : m < n) : (curI X n (m + 1)).getD m 0 = X.getD m 0 := by
  rw [curI, List.getD_eq_getElem?_getD, List.getD_eq_getElem?_getD, List.getElem?_append_left (by rw [List.length_take]; omega), List.getElem?_take_of_lt (by omega)]
theorem curI_set {X : List Int} {n m : Nat} (hX : X.length = n) (h : m < n) (v : Int) : (curI X n (m + 1)).set m v = X.take m ++ v :: List.replicate (n - (m + 1)) 0 := by
  rw [curI, take_at 0 (by omega), List.append_assoc, List.set_append_right _ _ (by rw [List.length_take]; omega), List.length_take, Nat.min_eq_left (by omega), Nat.sub_self]; rfl
theorem curI_next {X : List Int} {n m : Nat} (hX : X.length = n) (h : m < n) : (curI X n (m + 1)).set m 0 = curI X n m := by
  rw [curI_set hX h, curI, show n - m = (n - (m + 1)) + 1 by omega]; rfl
theorem incAt_next {X : List Int} {n m : Nat} (hX : X.length = n) (h : m < n) (q : IncAt X n (m + 1)) (hc : X.getD m 0 = 255) : IncAt X n m := by
  unfold IncAt at *
  rw [q, take_at 0 (by omega), incI_snoc, if_pos hc, Option.map_map, show n - m = (n - (m + 1)) + 1 by omega]
  congr 1
  funext y
  simp [List.replicate_succ]
theorem incAt_done {X : List Int} {n m : Nat} (hX : X.length = n) (h : m < n) (q : IncAt X n (m + 1)) (hc : ¬ X.getD m 0 = 255) : incI X = some ((curI X n (m + 1)).set m (X.getD m 0 + 1)) := by
  unfold IncAt at q
  rw [q, take_at 0 (by omega), incI_snoc, if_neg hc, curI_set hX h]
  simp
theorem incAt_none {X : List Int} {n : Nat} (q : IncAt X n 0) : incI X = none := by rw [q]; simp [incI]
theorem incAt_first {X : List Int} {n : Nat} (hX : X.length = n) : IncAt X n n := by
  unfold IncAt
  rw [take_all (by omega), Nat.sub_self]
  simp
theorem bytes_len (a : List UInt8) : (bytesOfStr a).length = a.length := by rw [bytesOfStr, List.length_map]
theorem bytes_ge (a : List UInt8) (i : Nat) : 0 ≤ (bytesOfStr a).getD i 0 ∧ (bytesOfStr a).getD i 0 ≤ 255 := by
  rw [List.getD_eq_getElem?_getD]
  cases e : (bytesOfStr a)[i]? with
  | none => simp
  | some x =>
    have := List.mem_of_getElem? e
    obtain ⟨b, -, rfl⟩ := List.mem_map.1 this
    have := b.toNat_lt
    simp only [Option.getD_some]
    omega
theorem aft_short {a : Str} {n : Nat} (h : (a : List UInt8).length < n) : aftI (bytesOfStr a) n = some ((bytesOfStr a).take n ++ List.drop (a : List UInt8).length (List.replicate n 0)) := by
  rw [aftI, if_pos (by rw [bytes_len]; exact h), List.take_of_length_le (by rw [bytes_len]; omega), List.drop_replicate, bytes_len]
theorem aft_long {a : Str} {n : Nat} (h : n ≤ (a : List UInt8).length) : aftI (bytesOfStr a) n = incI ((bytesOfStr a).take n) := by
  rw [aftI, if_neg (by rw [bytes_len]; omega)]
theorem aftF_some {a : Str} {n : Nat} {x : List Int} (h : aftI (bytesOfStr a) n = some x) : aftF a n = (strOfBytes x, true) := by rw [aftF, h]
theorem aftF_none {a : Str} {n : Nat} (h : aftI (bytesOfStr a) n = none) : aftF a n = ([], false) := by rw [aftF, h]
theorem retA {u v : Str × Bool} (h : u = v) : (some ((u.1, ()), (u.2, ()), ()) : Option ((Str × Unit) × (Bool × Unit) × Unit)) = some ((v.1, ()), (v.2, ()), ()) := by rw [h]
def sAbove : PSpec := ⟨[.d .str, .d (.int .i64)], [⟨false, [.d .str]⟩, ⟨false, [.d .bool]⟩], fun x => List.length x.1 ≤ 1000 ∧ 0 ≤ x.2.1 ∧ x.2.1 ≤ 1000, fun x => (((aftF x.1 x.2.1.toNat).1, ()), ((aftF x.1 x.2.1.toNat).2, ()), ())⟩
theorem fAbove : FnOk Try.prog 51 := ⟨_, Try.func51, by decide, rfl⟩
theorem pAbove : PSound Try.prog 51 sAbove := by
  refine psound (T := tab) (S := (spOf [])) (keep := k51) (by kernel_rfl) tabOk spNil (by kernel_rfl) Try.func51 (by kernel_rfl) (by decide) fun xs hg hp => ?_
  obtain ⟨a, n, ⟨⟩⟩ := xs
  change Str at a
  change Int at n
  change a.length ≤ 1000 ∧ 0 ≤ n ∧ n ≤ 1000 at hp
  obtain ⟨hp, hn0, hn⟩ := hp
  obtain ⟨n, rfl⟩ := Int.eq_ofNat_of_zero_le hn0
  clear hg
  show vfun tab _ k51 Try.f51 [.s a, .i .i64 n] [] _
  refine Ev.out ?_
  repeat' (first | ((with_reducible refine Ev.mk ?_); conv => whnf) | (with_reducible refine And.intro ?_ ?_) | (intro h))
  all_goals (try simp only [decide_eq_true_eq, decide_eq_false_iff_not, beq_iff_eq, bne_iff_ne, beq_eq_false_iff_ne, bne_eq_false_iff_eq, Int.toNat_natCast, ge_iff_le, gt_iff_lt, Bool.not_eq_true', Bool.not_eq_false', Int.not_lt, Int.not_le, ne_eq] at *)
  all_goals (try dsimp only [Ty.den, Ty.dflt, StrT] at *)
  all_goals (try simp only [eq4, ne4, eq3, ne3, eq2, ne2, Prod.eta, List.length_cons, List.length_nil, List.length_append, Nat.zero_add] at *)
  all_goals (try simp (disch := omega) only [wrap64] at *)
  all_goals try first | exact leafDraw (by kernel_rfl) | exact Leaf.mk trivial | (refine Leaf.mk ?_; omega) | (refine Leaf.mk ?_; unfold maxLen; omega)
  all_goals try simp only [List.length_replicate] at *
  · refine Leaf.mk (retA (u := (_, true)) (v := aftF a n) ?_)
    rw [aftF_some (aft_short (by omega))]; rfl
  · have hX : ((bytesOfStr a).take n).length = n := by rw [List.length_take, bytes_len]; omega
    have hal := aft_long (a := a) (n := n) (by omega)
    have hst : (bytesOfStr a).take n ++ List.drop (a : List UInt8).length (List.replicate n 0) = curI ((bytesOfStr a).take n) n n := by
      rw [curI, Nat.sub_self, List.drop_eq_nil_of_le (show (List.replicate n (0 : Int)).length ≤ (a : List UInt8).length by rw [List.length_replicate]; omega), List.take_of_length_le (show ((bytesOfStr a).take n).length ≤ n by omega)]; rfl
    have hX0 : ∀ i, 0 ≤ ((bytesOfStr a).take n).getD i 0 ∧ ((bytesOfStr a).take n).getD i 0 ≤ 255 := fun i => by
      by_cases hi : i < n
      · rw [List.getD_eq_getElem?_getD, List.getElem?_take_of_lt hi, ← List.getD_eq_getElem?_getD]; exact bytes_ge a i
      · rw [List.getD_eq_getElem?_getD, List.getElem?_eq_none (by omega)]; simp
    rw [hst]
    generalize (bytesOfStr a).take n = X at *
    refine LoopVC.on (fun m : Nat => [(7, .i .i64 ((m : Int) - 1))]) (fun m => [(0, .arr 5 (.int .u8) (curI X n m))]) (fun m => m ≤ n ∧ IncAt X n m) (fun m => m) n rfl ⟨Nat.le_refl _, incAt_first hX⟩ ?_
    intro m ⟨hm, hq⟩
    have hcl := curI_len hX hm
    repeat' (first | ((with_reducible refine Ev.mk ?_); conv => whnf) | (with_reducible refine And.intro ?_ ?_) | (intro h))
    all_goals (try simp only [decide_eq_true_eq, decide_eq_false_iff_not, beq_iff_eq, bne_iff_ne, beq_eq_false_iff_ne, bne_eq_false_iff_eq, Int.toNat_natCast, ge_iff_le, gt_iff_lt, Bool.not_eq_true', Bool.not_eq_false', Int.not_lt, Int.not_le, ne_eq] at *)
    all_goals (try dsimp only [Ty.den, Ty.dflt, StrT] at *)
    all_goals (try simp only [eq4, ne4, eq3, ne3, eq2, ne2, Prod.eta, List.length_cons, List.length_nil, List.length_append, Nat.zero_add] at *)
    all_goals (try simp (disch := omega) only [wrap64] at *)
    all_goals try first | exact leafDraw (by kernel_rfl) | exact Leaf.mk trivial | (refine Leaf.mk ?_; omega) | (refine Leaf.mk ?_; unfold maxLen; omega)
    all_goals try first
      | exact Leaf.mk (by omega)
      | (refine Leaf.mk ?_; rw [List.length_set]; omega)
    · obtain ⟨m, rfl⟩ : ∃ k, m = k + 1 := ⟨m - 1, by omega⟩
      rw [show (((m + 1 : Nat) : Int) - 1).toNat = m by omega] at *
      have hg := curI_get hX (show m < n by omega)
      have h0 := hX0 m
      rw [hg] at h ⊢
      refine Leaf.mk (retA (u := (_, true)) (v := aftF a n) ?_)
      have hne : ¬ X.getD m 0 = 255 := fun hc => by
        rw [hc] at h
        rw [List.getD_eq_getElem?_getD, List.getElem?_set_self (by omega)] at h
        exact h rfl
      rw [aftF_some (hal.trans (incAt_done hX (by omega) hq hne)), wrapU8, Int.emod_eq_of_lt (by omega) (by omega)]; rfl
    · obtain ⟨m, rfl⟩ : ∃ k, m = k + 1 := ⟨m - 1, by omega⟩
      rw [show (((m + 1 : Nat) : Int) - 1).toNat = m by omega] at *
      have hg := curI_get hX (show m < n by omega)
      have h0 := hX0 m
      rw [hg] at h ⊢
      have he : X.getD m 0 = 255 := Classical.byContradiction fun hc => by
        rw [List.getD_eq_getElem?_getD, List.getElem?_set_self (by omega), Option.getD_some, wrapU8, Int.emod_eq_of_lt (by omega) (by omega)] at h
        omega
      refine Leaf.mk ⟨m, ?_, ⟨by omega, incAt_next hX (by omega) hq he⟩, by omega⟩
      rw [he, show IntKind.u8.wrap (255 + 1) = 0 from rfl, curI_next hX (by omega), show (((m + 1 : Nat) : Int) - 1 - 1) = (m : Int) - 1 by omega]
      rfl
    · obtain rfl : m = 0 := by omega
      refine Leaf.mk (retA (u := ([], false)) (v := aftF a n) ?_)
      rw [aftF_none (hal.trans (incAt_none hq))]
end Go.Proofs.Ytcgfolhnoggjfaa
