import Derived.Test.YtkmfjlfejdoehaaGreatQ8
import Derived.Test.YtkmfjlfejdoehaaGreatEng4
import Derived.Test.YtkmfjlfejdoehaaGreatQ7
import Derived.Test.YtkmfjlfejdoehaaGreatEng5
/- Texts, one behind the other. -/
set_option linter.unusedVariables false
set_option linter.unusedSimpArgs false
set_option maxRecDepth 8000
set_option maxHeartbeats 4000000
namespace Go.Proofs.YtkmfjlfejdoehaaGreat
open Go.Eng
theorem fKeys1i : FnOk Tryz.prog 141 := ⟨_, Tryz.func141, by decide, rfl⟩
noncomputable def iKeys1i : Eng.Spec := inl tab (spOf []) k141 Tryz.f141
theorem pKeys1i : SpecOk Tryz.prog 141 iKeys1i := inl_ok tabOk spNil (by kernel_rfl) Tryz.func141 (by kernel_rfl)
theorem fPickedK : FnOk Tryz.prog 140 := ⟨_, Tryz.func140, by decide, rfl⟩
noncomputable def iPickedK : Eng.Spec := inl tab (spOf [(141, iKeys1i)]) k140 Tryz.f140
theorem pPickedK : SpecOk Tryz.prog 140 iPickedK := inl_ok tabOk (spCons (.inl ⟨pKeys1i, fKeys1i⟩) spNil) (by kernel_rfl) Tryz.func140 (by kernel_rfl)
def kyN (fs : List Msg) (j : Nat) : List (List UInt8) := (fs.take j).map (·.2.1)
theorem kyN_len (fs : List Msg) (j : Nat) : (kyN fs j).length ≤ j := by rw [kyN, List.length_map, List.length_take]; omega
theorem kyN_at {fs : List Msg} {j : Nat} (h : j < fs.length) : kyN fs (j + 1) = kyN fs j ++ [(fs.getD j msg0).2.1] := map_at msg0 h
def keysL (lo hi : List UInt8) (l : List Msg) : List (List UInt8) := (l.filter (wrP lo hi)).map (·.2.1)
def keysF (lo hi : List UInt8) (l : List Msg) : List (List UInt8) := (keysL lo hi l).foldl addK []
def sKeys : PSpec := ⟨[.d MsT, .d .str, .d .str], [⟨false, [.d (.slice .str)]⟩], fun x => List.length x.1 ≤ 100000, fun x => ((keysF x.2.1 x.2.2.1 x.1, ()), ())⟩
theorem fKeys : FnOk Tryz.prog 74 := ⟨_, Tryz.func74, by decide, rfl⟩
theorem pKeys : PSound Tryz.prog 74 sKeys := by
  refine psound (T := tab) (S := (spOf [(140, iPickedK), (141, iKeys1i), (142, iSort), (143, sCompact.spec)])) (keep := k74) (by kernel_rfl) tabOk (spCons (.inl ⟨pPickedK, fPickedK⟩) (spCons (.inl ⟨pKeys1i, fKeys1i⟩) (spCons (.inl ⟨pSort, fSort⟩) (spCons (.inl ⟨pCompact, fCompact⟩) spNil)))) (by kernel_rfl) Tryz.func74 (by kernel_rfl) (by decide) fun xs hg hp => ?_
  obtain ⟨l, lo, hi, ⟨⟩⟩ := xs
  change List Msg at l
  change List UInt8 at lo hi
  change l.length ≤ 100000 at hp
  clear hg
  show vfun tab _ k74 Tryz.f74 [.sl MsgT l, .s lo, .s hi] [] _
  refine Ev.out ?_
  repeat' (first | ((with_reducible refine Ev.mk ?_); conv => whnf) | (with_reducible refine And.intro ?_ ?_) | (intro h))
  all_goals (try simp only [decide_eq_true_eq, decide_eq_false_iff_not, beq_iff_eq, bne_iff_ne, beq_eq_false_iff_ne, bne_eq_false_iff_eq, Int.toNat_natCast, ge_iff_le, gt_iff_lt, Bool.not_eq_true', Bool.not_eq_false', Int.not_lt, Int.not_le, ne_eq] at *)
  all_goals (try dsimp only [Ty.den, Ty.dflt, MsgT] at *)
  all_goals (try simp only [eq4, ne4, eq3, ne3, eq2, ne2, Prod.eta, List.length_cons, List.length_nil, List.length_append, Nat.zero_add] at *)
  all_goals (try simp (disch := omega) only [wrap64] at *)
  all_goals try first | exact leafDraw (by kernel_rfl) | exact Leaf.mk trivial | (refine Leaf.mk ?_; omega) | (refine Leaf.mk ?_; unfold maxLen; omega)
  refine LoopVC.weak [(.slot 5, .nil 34 MsgT)] (fun i : Nat => [(10, .i .i64 i)]) (fun i => [(18, .arr 34 MsgT (flN (wrP lo hi) l i))]) (fun i => i ≤ l.length) (fun i => l.length - i) 0 (Ev.mk ?_)
  (conv => whnf)
  refine ⟨Leaf.mk rfl, Leaf.mk ?_, ?_⟩
  · omega
  intro i hii
  have hfl := flN_len (wrP lo hi) l i
  repeat' (first | ((with_reducible refine Ev.mk ?_); conv => whnf) | (with_reducible refine And.intro ?_ ?_) | (intro h))
  all_goals (try simp only [decide_eq_true_eq, decide_eq_false_iff_not, beq_iff_eq, bne_iff_ne, beq_eq_false_iff_ne, bne_eq_false_iff_eq, Int.toNat_natCast, ge_iff_le, gt_iff_lt, Bool.not_eq_true', Bool.not_eq_false', Int.not_lt, Int.not_le, ne_eq] at *)
  all_goals (try dsimp only [Ty.den, Ty.dflt, MsgT, sAboutR, sAbout] at *)
  all_goals (try simp only [eq4, ne4, eq3, ne3, eq2, ne2, Prod.eta, List.length_cons, List.length_nil, List.length_append, Nat.zero_add] at *)
  all_goals (try simp (disch := omega) only [wrap64] at *)
  all_goals try first | exact leafDraw (by kernel_rfl) | exact Leaf.mk trivial | (refine Leaf.mk ?_; omega) | (refine Leaf.mk ?_; unfold maxLen; omega)
  all_goals try first
    | exact Leaf.mk trivial
    | (refine Leaf.mk ?_; omega)
    | (refine Leaf.mk ?_; unfold maxLen; omega)
  all_goals try
    have hat := fun b hb => flN_in (p := wrP lo hi) (l := l) (i := i) b hb
    have hao := fun b hb => flN_out (p := wrP lo hi) (l := l) (i := i) b hb
    generalize l.getD i msg0 = m at *
    first
    | (refine Leaf.mk ⟨i + 1, ?_, by omega, by omega⟩
       rw [hat (by omega) (by simp only [wrP, withinK, Bool.and_eq_true, Bool.or_eq_true, beq_iff_eq, Bool.not_eq_true']; exact ⟨‹_›, ‹_›, by first | exact .inl ‹_› | exact .inr ‹_›⟩)]; rfl)
    | (refine Leaf.mk ⟨i + 1, ?_, by omega, by omega⟩
       rw [hao (by omega) (by simp_all [wrP, withinK])]; rfl)
  have hil : i = l.length := by omega
  subst hil
  have hK : flN (wrP lo hi) l l.length = l.filter (wrP lo hi) := by rw [flN, take_all (Nat.le_refl _)]
  rw [hK] at *
  clear hK
  have hKl : keysL lo hi l = (l.filter (wrP lo hi)).map (·.2.1) := rfl
  have hfl : (l.filter (wrP lo hi)).length ≤ l.length := List.length_filter_le _ _
  generalize l.filter (wrP lo hi) = fs at *
  refine LoopVC.weak [(.slot 12, .frz), (.slot 7, .nil 9 .str)] (fun j : Nat => [(14, .i .i64 j)]) (fun j => [(0, .arr 9 .str (kyN fs j))]) (fun j => j ≤ fs.length) (fun j => fs.length - j) 0 (Ev.mk ?_)
  (conv => whnf)
  refine ⟨Leaf.mk ?_, Leaf.mk ?_, ?_⟩
  · rfl
  · omega
  intro j hj
  have hml := kyN_len fs j
  have hsl := sortStr_len (kyN fs j)
  repeat' (first | ((with_reducible refine Ev.mk ?_); conv => whnf) | (with_reducible refine And.intro ?_ ?_) | (intro h))
  all_goals (try simp only [decide_eq_true_eq, decide_eq_false_iff_not, beq_iff_eq, bne_iff_ne, beq_eq_false_iff_ne, bne_eq_false_iff_eq, Int.toNat_natCast, ge_iff_le, gt_iff_lt, Bool.not_eq_true', Bool.not_eq_false', Int.not_lt, Int.not_le, ne_eq] at *)
  all_goals (try dsimp only [Ty.den, Ty.dflt, MsgT] at *)
  all_goals (try simp only [eq4, ne4, eq3, ne3, eq2, ne2, Prod.eta, List.length_cons, List.length_nil, List.length_append, Nat.zero_add] at *)
  all_goals (try simp (disch := omega) only [wrap64] at *)
  all_goals try first | exact leafDraw (by kernel_rfl) | exact Leaf.mk trivial | (refine Leaf.mk ?_; omega) | (refine Leaf.mk ?_; unfold maxLen; omega)
  all_goals first
    | (refine Leaf.mk ?_; omega)
    | (refine Leaf.mk ?_; unfold maxLen; omega)
    | exact Leaf.mk (show (sortStr (kyN fs j)).length ≤ 1000000 by omega)
    | (refine Leaf.mk ⟨j + 1, ?_, by omega, by omega⟩
       first
       | (rw [kyN_at (by omega), wrap64 (by omega)]; rfl; done)
       | (rw [kyN_at (by omega)]; rfl))
    | (refine Leaf.mk (ret1 (show compL (sortStr (kyN fs j)) = keysF lo hi l from ?_))
       rw [keysF, sortU_fold, sortU, hKl, kyN, take_all (by omega)])
end Go.Proofs.YtkmfjlfejdoehaaGreat

set_option linter.unusedVariables false
set_option linter.unusedSimpArgs false
set_option maxRecDepth 8000
set_option maxHeartbeats 4000000
namespace Go.Proofs.YtkmfjlfejdoehaaGreat
open Go.Eng
abbrev StrsT : Ty := .slice .str
theorem posK_at {k : List UInt8} : ∀ {l : List (List UInt8)} {i : Nat}, i ≤ l.length → (∀ j, j < i → sless (l.getD j []) k = true) → posK k l = i + posK k (l.drop i)
  | l, 0, _, _ => by simp
  | [], i + 1, h, _ => by simp at h
  | x :: r, i + 1, h, hj => by
    have h0 := hj 0 (by omega)
    have ih := posK_at (l := r) (i := i) (by simpa using h) (fun j hji => hj (j + 1) (by omega))
    rw [posK, if_pos (by simpa using h0), ih]; simp; omega
def sAddKey : PSpec := ⟨[.d StrsT, .d .str], [⟨false, [.d StrsT]⟩], fun x => List.length x.1 ≤ 100000, fun x => ((addK x.1 x.2.1, ()), ())⟩
theorem fAddKey : FnOk Tryz.prog 147 := ⟨_, Tryz.func147, by decide, rfl⟩
theorem pAddKey : PSound Tryz.prog 147 sAddKey := by
  refine psound (T := tab) (S := (spOf [])) (keep := k147) (by kernel_rfl) tabOk spNil (by kernel_rfl) Tryz.func147 (by kernel_rfl) (by decide) fun xs hg hp => ?_
  obtain ⟨l, k, ⟨⟩⟩ := xs
  change List (List UInt8) at l
  change List UInt8 at k
  change l.length ≤ 100000 at hp
  clear hg
  show vfun tab _ k147 Tryz.f147 [.sl .str l, .s k] [] _
  refine Ev.out ?_
  repeat' (first | ((with_reducible refine Ev.mk ?_); conv => whnf) | (with_reducible refine And.intro ?_ ?_) | (intro h))
  all_goals (try simp only [decide_eq_true_eq, decide_eq_false_iff_not, beq_iff_eq, bne_iff_ne, beq_eq_false_iff_ne, bne_eq_false_iff_eq, Int.toNat_natCast, ge_iff_le, gt_iff_lt, Bool.not_eq_true', Bool.not_eq_false', Int.not_lt, Int.not_le, ne_eq] at *)
  all_goals (try dsimp only [Ty.den, Ty.dflt, StrsT] at *)
  all_goals (try simp only [eq4, ne4, eq3, ne3, eq2, ne2, Prod.eta, List.length_cons, List.length_nil, List.length_append, Nat.zero_add] at *)
  all_goals (try simp (disch := omega) only [wrap64] at *)
  all_goals try first | exact leafDraw (by kernel_rfl) | exact Leaf.mk trivial | (refine Leaf.mk ?_; omega) | (refine Leaf.mk ?_; unfold maxLen; omega)
  refine LoopVC.on (fun i : Nat => [(5, .i .i64 i)]) (fun _ => []) (fun i => i ≤ l.length ∧ ∀ j, j < i → sless (l.getD j []) k = true) (fun i => l.length - i) 0 rfl ⟨by omega, fun j hj => by omega⟩ ?_
  intro i ⟨hi, hj⟩
  have hpk := posK_at hi hj
  repeat' (first | ((with_reducible refine Ev.mk ?_); conv => whnf) | (with_reducible refine And.intro ?_ ?_) | (intro h))
  all_goals (try simp only [decide_eq_true_eq, decide_eq_false_iff_not, beq_iff_eq, bne_iff_ne, beq_eq_false_iff_ne, bne_eq_false_iff_eq, Int.toNat_natCast, ge_iff_le, gt_iff_lt, Bool.not_eq_true', Bool.not_eq_false', Int.not_lt, Int.not_le, ne_eq] at *)
  all_goals (try dsimp only [Ty.den, Ty.dflt, StrsT] at *)
  all_goals (try simp only [eq4, ne4, eq3, ne3, eq2, ne2, Prod.eta, List.length_cons, List.length_nil, List.length_append, Nat.zero_add] at *)
  all_goals (try simp (disch := omega) only [wrap64] at *)
  all_goals try first | exact leafDraw (by kernel_rfl) | exact Leaf.mk trivial | (refine Leaf.mk ?_; omega) | (refine Leaf.mk ?_; unfold maxLen; omega)
  all_goals try simp only [Int.toNat_zero, List.drop_zero, List.nil_append, take_all (Nat.le_refl l.length)] at *
  all_goals try first
    | (refine Leaf.mk ?_; simp only [List.length_take, List.length_drop]; omega)
    | (refine Leaf.mk ?_; simp only [List.length_take, List.length_drop]; unfold maxLen; omega)
  · refine Leaf.mk ⟨i + 1, rfl, ⟨by omega, fun j hji => ?_⟩, by omega⟩
    rcases Nat.lt_or_ge j i with h1 | h1
    · exact hj j h1
    · obtain rfl : j = i := by omega
      assumption
  all_goals
    have hpi : posK k l = i := by
      rw [hpk]
      first
      | (rw [drop_end (by omega)]; rfl)
      | (rw [drop_at [] (by omega), posK, if_neg (by rw [‹sless _ _ = false›]; simp)]; omega)
  · refine Leaf.mk (ret1 (show l = addK l k from ?_))
    rw [addK, if_pos (by rw [hpi]; exact ⟨by omega, h⟩)]
  · refine Leaf.mk (ret1 (show _ = addK l k from ?_))
    rw [addK, if_neg (by rw [hpi]; exact fun hc => h hc.2), hpi]
  · refine Leaf.mk (ret1 (show _ = addK l k from ?_))
    rw [addK, if_neg (by rw [hpi]; exact fun hc => by omega), hpi]
def sKeysR : PSpec := sKeys
theorem fKeysR : FnOk Tryz.prog 80 := ⟨_, Tryz.func80, by decide, rfl⟩
theorem pKeysR : PSound Tryz.prog 80 sKeysR := by
  refine psound (T := tab) (S := (spOf [(83, sWithin.spec (lsOf [])), (147, sAddKey.spec (lsOf []))])) (keep := k80) (by kernel_rfl) tabOk (spCons (pOk pWithin fWithin (by decide) lsNil) (spCons (pOk pAddKey fAddKey (by decide) lsNil) spNil)) (by kernel_rfl) Tryz.func80 (by kernel_rfl) (by decide) fun xs hg hp => ?_
  obtain ⟨l, lo, hi, ⟨⟩⟩ := xs
  change List Msg at l
  change List UInt8 at lo hi
  change l.length ≤ 100000 at hp
  clear hg
  show vfun tab _ k80 Tryz.f80 [.sl MsgT l, .s lo, .s hi] [] _
  refine Ev.out ?_
  repeat' (first | ((with_reducible refine Ev.mk ?_); conv => whnf) | (with_reducible refine And.intro ?_ ?_) | (intro h))
  all_goals (try simp only [decide_eq_true_eq, decide_eq_false_iff_not, beq_iff_eq, bne_iff_ne, beq_eq_false_iff_ne, bne_eq_false_iff_eq, Int.toNat_natCast, ge_iff_le, gt_iff_lt, Bool.not_eq_true', Bool.not_eq_false', Int.not_lt, Int.not_le, ne_eq] at *)
  all_goals (try dsimp only [Ty.den, Ty.dflt, MsgT] at *)
  all_goals (try simp only [eq4, ne4, eq3, ne3, eq2, ne2, Prod.eta, List.length_cons, List.length_nil, List.length_append, Nat.zero_add] at *)
  all_goals (try simp (disch := omega) only [wrap64] at *)
  all_goals try first | exact leafDraw (by kernel_rfl) | exact Leaf.mk trivial | (refine Leaf.mk ?_; omega) | (refine Leaf.mk ?_; unfold maxLen; omega)
  refine LoopVC.weak [(.slot 7, .sl .str)] (fun i : Nat => [(7, .sl .str ((keysL lo hi (l.take i)).foldl addK [])), (8, .i .i64 i)]) (fun _ => []) (fun i => i ≤ l.length) (fun i => l.length - i) 0 (Ev.mk ?_)
  (conv => whnf)
  refine ⟨Leaf.mk ?_, Leaf.mk ?_, ?_⟩
  · rfl
  · omega
  intro i hii
  have hkl : ((keysL lo hi (l.take i)).foldl addK []).length ≤ i := by
    rw [sortU_fold]
    have h1 := sortU_len (keysL lo hi (l.take i))
    have h2 : (keysL lo hi (l.take i)).length ≤ i := by rw [keysL, List.length_map]; exact length_filter_take
    omega
  have hat : ∀ (h : i < l.length), keysL lo hi (l.take (i + 1)) = keysL lo hi (l.take i) ++ if wrP lo hi (l.getD i msg0) then [(l.getD i msg0).2.1] else [] := fun h => by
    rw [keysL, filter_at msg0 h, List.map_append]; split <;> rfl
  generalize hK : keysL lo hi (l.take i) = K at *
  repeat' (first | ((with_reducible refine Ev.mk ?_); conv => whnf) | (with_reducible refine And.intro ?_ ?_) | (intro h))
  all_goals (try simp only [decide_eq_true_eq, decide_eq_false_iff_not, beq_iff_eq, bne_iff_ne, beq_eq_false_iff_ne, bne_eq_false_iff_eq, Int.toNat_natCast, ge_iff_le, gt_iff_lt, Bool.not_eq_true', Bool.not_eq_false', Int.not_lt, Int.not_le, ne_eq] at *)
  all_goals (try dsimp only [Ty.den, Ty.dflt, MsgT, sWithin] at *)
  all_goals (try simp only [eq4, ne4, eq3, ne3, eq2, ne2, Prod.eta, List.length_cons, List.length_nil, List.length_append, Nat.zero_add] at *)
  all_goals (try simp (disch := omega) only [wrap64] at *)
  all_goals try first | exact leafDraw (by kernel_rfl) | exact Leaf.mk trivial | (refine Leaf.mk ?_; omega) | (refine Leaf.mk ?_; unfold maxLen; omega)
  all_goals try exact Leaf.mk (show (K.foldl addK []).length ≤ 100000 by omega)
  all_goals try
    refine Leaf.mk ⟨i + 1, ?_, by omega, by omega⟩
    rw [hat (by omega)]
    first
    | (rw [if_pos (by simp only [wrP, Bool.and_eq_true, beq_iff_eq]; exact ⟨‹_›, ‹_›⟩), List.foldl_append]; rfl)
    | (rw [if_neg (by simp only [wrP, Bool.and_eq_true, beq_iff_eq]; intro hc; first | exact absurd hc.1 ‹¬ _› | exact Bool.noConfusion (hc.2.symm.trans ‹_›)), List.append_nil]; rfl)
  refine Leaf.mk (ret1 (show _ = keysF lo hi l from ?_))
  rw [← hK, take_all (by omega), keysF]
theorem all_at' {α : Type} {p : α → Bool} {xs : List α} {i : Nat} (d : α) (h : i < xs.length) : (xs.take (i + 1)).all p = ((xs.take i).all p && p (xs.getD i d)) := by
  rw [take_at d h, List.all_append]; simp
theorem all_no' {α : Type} {p : α → Bool} {xs : List α} {i : Nat} (d : α) (h : i < xs.length) (hn : p (xs.getD i d) = false) : xs.all p = false := by
  have : ¬ xs.all p = true := fun hc => by
    rw [List.all_eq_true] at hc
    have := hc _ (getD_mem d h)
    rw [hn] at this; exact absurd this (by simp)
  simpa using this
def lightM1 (m : Msg) : Bool := decide (m.2.1.length ≤ 100 ∧ m.2.2.2.2.2.length ≤ 100)
def lightM (l : List Msg) (most : Int) : Bool := decide ((l.length : Int) ≤ most) && l.all lightM1
def sLightM : PSpec := ⟨[.d MsT, .d (.int .i64)], [⟨false, [.d .bool]⟩], fun _ => True, fun x => ((lightM x.1 x.2.1, ()), ())⟩
theorem fLightM : FnOk Tryz.prog 11 := ⟨_, Tryz.func11, by decide, rfl⟩
theorem pLightM : PSound Tryz.prog 11 sLightM := by
  refine psound (T := tab) (S := (spOf [])) (keep := k11) (by kernel_rfl) tabOk spNil (by kernel_rfl) Tryz.func11 (by kernel_rfl) (by decide) fun xs hg hp => ?_
  obtain ⟨xs, most, ⟨⟩⟩ := xs
  obtain ⟨⟨hl, hx⟩, -⟩ := hg
  change List Msg at xs
  change Int at most
  change xs.length ≤ _ at hl
  have hl := len63 hl
  clear hp
  show vfun tab _ k11 Tryz.f11 [.sl MsgT xs, .i .i64 most] [] _
  refine Ev.out ?_
  repeat' (first | ((with_reducible refine Ev.mk ?_); conv => whnf) | (with_reducible refine And.intro ?_ ?_) | (intro h))
  all_goals (try simp only [decide_eq_true_eq, decide_eq_false_iff_not, beq_iff_eq, bne_iff_ne, beq_eq_false_iff_ne, bne_eq_false_iff_eq, Int.toNat_natCast, ge_iff_le, gt_iff_lt, Bool.not_eq_true', Bool.not_eq_false', Int.not_lt, Int.not_le, ne_eq] at *)
  all_goals (try dsimp only [Ty.den, Ty.dflt, MsgT] at *)
  all_goals (try simp only [eq4, ne4, eq3, ne3, eq2, ne2, Prod.eta, List.length_cons, List.length_nil, List.length_append, Nat.zero_add] at *)
  all_goals (try simp (disch := omega) only [wrap64] at *)
  all_goals try first | exact leafDraw (by kernel_rfl) | exact Leaf.mk trivial | (refine Leaf.mk ?_; omega) | (refine Leaf.mk ?_; unfold maxLen; omega)
  · refine Leaf.mk (ret1 (show false = lightM xs most from ?_))
    rw [lightM, decide_eq_false (by omega), Bool.false_and]
  refine LoopVC.on (fun i : Nat => [(5, .i .i64 i)]) (fun _ => []) (fun i => i ≤ xs.length ∧ (xs.take i).all lightM1 = true) (fun i => xs.length - i) 0 rfl ⟨by omega, rfl⟩ ?_
  intro i ⟨hi, he⟩
  repeat' (first | ((with_reducible refine Ev.mk ?_); conv => whnf) | (with_reducible refine And.intro ?_ ?_) | (intro h))
  all_goals (try simp only [decide_eq_true_eq, decide_eq_false_iff_not, beq_iff_eq, bne_iff_ne, beq_eq_false_iff_ne, bne_eq_false_iff_eq, Int.toNat_natCast, ge_iff_le, gt_iff_lt, Bool.not_eq_true', Bool.not_eq_false', Int.not_lt, Int.not_le, ne_eq] at *)
  all_goals (try dsimp only [Ty.den, Ty.dflt, MsgT] at *)
  all_goals (try simp only [eq4, ne4, eq3, ne3, eq2, ne2, Prod.eta, List.length_cons, List.length_nil, List.length_append, Nat.zero_add] at *)
  all_goals (try simp (disch := omega) only [wrap64] at *)
  all_goals try first | exact leafDraw (by kernel_rfl) | exact Leaf.mk trivial | (refine Leaf.mk ?_; omega) | (refine Leaf.mk ?_; unfold maxLen; omega)
  all_goals first
    | (refine Leaf.mk (ret1 (show false = lightM xs most from ?_))
       rw [lightM, all_no' msg0 (by omega) (show lightM1 (xs.getD i msg0) = false from decide_eq_false (fun hc => by have h1 := hc.1; have h2 := hc.2; dsimp only [msg0] at *; omega)), Bool.and_false]
       done)
    | (refine Leaf.mk ⟨i + 1, rfl, ⟨by omega, ?_⟩, by omega⟩
       rw [all_at' msg0 (by omega), he, Bool.true_and]; exact decide_eq_true ⟨by dsimp only [msg0] at *; omega, by dsimp only [msg0] at *; omega⟩)
    | (refine Leaf.mk (ret1 (show true = lightM xs most from ?_))
       rw [List.take_of_length_le (by omega)] at he
       rw [lightM, he, Bool.and_true, decide_eq_true (by omega)]
       done)
set_option synthInstance.maxHeartbeats 400000
instance decM1 : DecidableEq (Bool × List UInt8) := inferInstance
instance decM2 : DecidableEq (Int × Bool × List UInt8) := inferInstance
instance decM3 : DecidableEq (Int × Int × Bool × List UInt8) := inferInstance
instance decM4 : DecidableEq (List UInt8 × Int × Int × Bool × List UInt8) := inferInstance
instance decMsg : DecidableEq Msg := inferInstanceAs (DecidableEq (Int × List UInt8 × Int × Int × Bool × List UInt8))
def sameM (a b : List Msg) : Bool := decide (a = b)
def sSameM : PSpec := ⟨[.d MsT, .d MsT], [⟨false, [.d .bool]⟩], fun _ => True, fun x => ((sameM x.1 x.2.1, ()), ())⟩
theorem fSameM : FnOk Tryz.prog 43 := ⟨_, Tryz.func43, by decide, rfl⟩
theorem pSameM : PSound Tryz.prog 43 sSameM := by
  refine psound (T := tab) (S := (spOf [])) (keep := k43) (by kernel_rfl) tabOk spNil (by kernel_rfl) Tryz.func43 (by kernel_rfl) (by decide) fun xs hg hp => ?_
  obtain ⟨xs, ys, ⟨⟩⟩ := xs
  obtain ⟨⟨hl, -⟩, ⟨hl2, -⟩, -⟩ := hg
  have hl := len63 hl
  have hl2 := len63 hl2
  change List Msg at xs ys
  change xs.length ≤ _ at hl
  change ys.length ≤ _ at hl2
  clear hp
  show vfun tab _ k43 Tryz.f43 [.sl MsgT xs, .sl MsgT ys] [] _
  refine Ev.out ?_
  repeat' (first | ((with_reducible refine Ev.mk ?_); conv => whnf) | (with_reducible refine And.intro ?_ ?_) | (intro h))
  all_goals (try simp only [decide_eq_true_eq, decide_eq_false_iff_not, beq_iff_eq, bne_iff_ne, beq_eq_false_iff_ne, bne_eq_false_iff_eq, Int.toNat_natCast, ge_iff_le, gt_iff_lt, Bool.not_eq_true', Bool.not_eq_false', Int.not_lt, Int.not_le, ne_eq] at *)
  all_goals (try dsimp only [Ty.den, Ty.dflt, MsgT] at *)
  all_goals (try simp only [eq4, ne4, eq3, ne3, eq2, ne2, Prod.eta, List.length_cons, List.length_nil, List.length_append, Nat.zero_add] at *)
  all_goals (try simp (disch := omega) only [wrap64] at *)
  · refine Leaf.mk (ret1 (show false = sameM xs ys from ?_))
    rw [sameM, eq_comm, decide_eq_false_iff_not]; intro hc; subst hc; omega
  refine LoopVC.on (fun i : Nat => [(5, .i .i64 i)]) (fun _ => []) (fun i => i ≤ xs.length ∧ xs.take i = ys.take i) (fun i => xs.length - i) 0 rfl ⟨by omega, by simp⟩ ?_
  intro i ⟨hi, he⟩
  repeat' (first | ((with_reducible refine Ev.mk ?_); conv => whnf) | (with_reducible refine And.intro ?_ ?_) | (intro h))
  all_goals (try simp only [decide_eq_true_eq, decide_eq_false_iff_not, beq_iff_eq, bne_iff_ne, beq_eq_false_iff_ne, bne_eq_false_iff_eq, Int.toNat_natCast, ge_iff_le, gt_iff_lt, Bool.not_eq_true', Bool.not_eq_false', Int.not_lt, Int.not_le, ne_eq] at *)
  all_goals (try dsimp only [Ty.den, Ty.dflt, MsgT] at *)
  all_goals (try simp only [eq4, ne4, eq3, ne3, eq2, ne2, Prod.eta, List.length_cons, List.length_nil, List.length_append, Nat.zero_add] at *)
  all_goals (try simp (disch := omega) only [wrap64] at *)
  all_goals try first | exact leafDraw (by kernel_rfl) | exact Leaf.mk trivial | (refine Leaf.mk ?_; omega) | (refine Leaf.mk ?_; unfold maxLen; omega)
  all_goals try rw [eq6] at h
  all_goals try rw [ne6] at h
  all_goals first
    | exact Leaf.mk (ret1 (show false = decide (xs = ys) by rw [eq_comm, decide_eq_false_iff_not]; exact same_not msg0 h))
    | exact Leaf.mk ⟨i + 1, rfl, ⟨by omega, same_step msg0 (by omega) he (by omega) h⟩, by omega⟩
    | exact Leaf.mk (ret1 (show true = decide (xs = ys) by rw [eq_comm, decide_eq_true_eq]; exact same_end (by omega) he (by omega)))
end Go.Proofs.YtkmfjlfejdoehaaGreat

set_option linter.unusedVariables false
set_option linter.unusedSimpArgs false
set_option maxRecDepth 8000
set_option maxHeartbeats 4000000
namespace Go.Proofs.YtkmfjlfejdoehaaGreat
open Go.Eng
def keyIs (k : List UInt8) (s : Stk) : Bool := s.1 == k
def plL (l : List Stk) (k : List UInt8) : Int := idxF (keyIs k) l 0
def findF (l : List Stk) (k : List UInt8) : Stk × Bool := if plL l k < 0 then ((k, []), false) else (l.getD (plL l k).toNat ([], []), true)
theorem retF {u v : Stk × Bool} (h : u = v) : (some ((u.1, ()), (u.2, ()), ()) : Option ((Stk × Unit) × (Bool × Unit) × Unit)) = some ((v.1, ()), (v.2, ()), ()) := by rw [h]
def sLFindR : PSpec := ⟨[.d SsT, .d .str], [⟨true, [.d StT]⟩, ⟨false, [.d .bool]⟩], fun _ => True, fun x => (((findF x.1 x.2.1).1, ()), ((findF x.1 x.2.1).2, ()), ())⟩
theorem fLFindR : FnOk Tryz.prog 20 := ⟨_, Tryz.func20, by decide, rfl⟩
theorem pLFindR : PSound Tryz.prog 20 sLFindR := by
  refine psound (T := tab) (S := (spOf [])) (keep := k20) (by kernel_rfl) tabOk spNil (by kernel_rfl) Tryz.func20 (by kernel_rfl) (by decide) fun xs hg hp => ?_
  obtain ⟨l, k, ⟨⟩⟩ := xs
  obtain ⟨⟨hl, -⟩, -⟩ := hg
  change List Stk at l
  change List UInt8 at k
  change l.length ≤ _ at hl
  have hl := len63 hl
  clear hp
  show vfun tab _ k20 Tryz.f20 [.sl StT l, .s k] [] _
  refine Ev.out ?_
  repeat' (first | ((with_reducible refine Ev.mk ?_); conv => whnf) | (with_reducible refine And.intro ?_ ?_) | (intro h))
  all_goals (try simp only [decide_eq_true_eq, decide_eq_false_iff_not, beq_iff_eq, bne_iff_ne, beq_eq_false_iff_ne, bne_eq_false_iff_eq, Int.toNat_natCast, ge_iff_le, gt_iff_lt, Bool.not_eq_true', Bool.not_eq_false', Int.not_lt, Int.not_le, ne_eq] at *)
  all_goals (try dsimp only [Ty.den, Ty.dflt, StT] at *)
  all_goals (try simp only [eq4, ne4, eq3, ne3, eq2, ne2, Prod.eta, List.length_cons, List.length_nil, List.length_append, Nat.zero_add] at *)
  all_goals (try simp (disch := omega) only [wrap64] at *)
  all_goals try first | exact leafDraw (by kernel_rfl) | exact Leaf.mk trivial | (refine Leaf.mk ?_; omega) | (refine Leaf.mk ?_; unfold maxLen; omega)
  refine LoopVC.on (fun i : Nat => [(6, .i .i64 i)]) (fun _ => []) (fun i => i ≤ l.length ∧ plL l k = idxF (keyIs k) (l.drop i) i) (fun i => l.length - i) 0 rfl ⟨by omega, by simp [plL]⟩ ?_
  intro i ⟨hi, he⟩
  repeat' (first | ((with_reducible refine Ev.mk ?_); conv => whnf) | (with_reducible refine And.intro ?_ ?_) | (intro h))
  all_goals (try simp only [decide_eq_true_eq, decide_eq_false_iff_not, beq_iff_eq, bne_iff_ne, beq_eq_false_iff_ne, bne_eq_false_iff_eq, Int.toNat_natCast, ge_iff_le, gt_iff_lt, Bool.not_eq_true', Bool.not_eq_false', Int.not_lt, Int.not_le, ne_eq] at *)
  all_goals (try dsimp only [Ty.den, Ty.dflt, StT] at *)
  all_goals (try simp only [eq4, ne4, eq3, ne3, eq2, ne2, Prod.eta, List.length_cons, List.length_nil, List.length_append, Nat.zero_add] at *)
  all_goals (try simp (disch := omega) only [wrap64] at *)
  all_goals try first | exact leafDraw (by kernel_rfl) | exact Leaf.mk trivial | (refine Leaf.mk ?_; omega) | (refine Leaf.mk ?_; unfold maxLen; omega)
  all_goals first
    | (rw [drop_at stk0 (by omega), idxF, if_pos (show keyIs k (l.getD i stk0) = true from beq_iff_eq.2 ‹_›)] at he
       refine Leaf.mk (retF (u := (((l.getD i stk0).1, (l.getD i stk0).2), true)) (v := findF l k) ?_)
       rw [findF, if_neg (by omega), he, Int.toNat_natCast])
    | (rw [drop_at stk0 (by omega), idxF, if_neg (show ¬ keyIs k (l.getD i stk0) = true from fun hc => ‹¬ (l.getD i ([], [])).1 = k› (beq_iff_eq.1 hc))] at he
       exact Leaf.mk (Exists.intro (i + 1) ⟨rfl, ⟨by omega, he⟩, by omega⟩))
    | (rw [drop_end (by omega)] at he
       refine Leaf.mk (retF (u := ((k, []), false)) (v := findF l k) ?_)
       rw [findF, if_pos (by rw [he]; exact (show (-1 : Int) < 0 by decide))])
def inR (lo hi : List UInt8) (s : Stk) : Bool := withinK lo hi s.1
def fsN (p : Stk → Bool) (l : List Stk) (i : Nat) : List Stk := (l.take i).filter p
theorem fsN_len (p : Stk → Bool) (l : List Stk) (i : Nat) : (fsN p l i).length ≤ i := length_filter_take
theorem fsN_in {p : Stk → Bool} {l : List Stk} {i : Nat} (h : i < l.length) (hr : p (l.getD i stk0) = true) : fsN p l (i + 1) = fsN p l i ++ [l.getD i stk0] := by
  rw [fsN, filter_at stk0 h, if_pos hr]; rfl
theorem fsN_out {p : Stk → Bool} {l : List Stk} {i : Nat} (h : i < l.length) (hr : p (l.getD i stk0) = false) : fsN p l (i + 1) = fsN p l i := by
  rw [fsN, filter_at stk0 h, if_neg (by rw [hr]; simp), List.append_nil]; rfl
def sLRange : PSpec := ⟨[.st SsT, .d .str, .d .str], [⟨false, [.o 38 StT]⟩], fun x => List.length x.1 ≤ 100000, fun x => ((List.filter (α := Stk) (inR x.2.1 x.2.2.1) x.1, ()), ())⟩
theorem fLRange : FnOk Tryz.prog 22 := ⟨_, Tryz.func22, by decide, rfl⟩
theorem pLRange : PSound Tryz.prog 22 sLRange := by
  refine psound (T := tab) (S := (spOf [])) (keep := k22) (by kernel_rfl) tabOk spNil (by kernel_rfl) Tryz.func22 (by kernel_rfl) (by decide) fun xs hg hp => ?_
  obtain ⟨l, lo, hi, ⟨⟩⟩ := xs
  change List Stk at l
  change List UInt8 at lo hi
  change l.length ≤ 100000 at hp
  clear hg
  show vfun tab _ k22 Tryz.f22 [.agg [.sl StT l], .s lo, .s hi] [] _
  refine Ev.out ?_
  repeat' (first | ((with_reducible refine Ev.mk ?_); conv => whnf) | (with_reducible refine And.intro ?_ ?_) | (intro h))
  all_goals (try simp only [decide_eq_true_eq, decide_eq_false_iff_not, beq_iff_eq, bne_iff_ne, beq_eq_false_iff_ne, bne_eq_false_iff_eq, Int.toNat_natCast, ge_iff_le, gt_iff_lt, Bool.not_eq_true', Bool.not_eq_false', Int.not_lt, Int.not_le, ne_eq] at *)
  all_goals (try dsimp only [Ty.den, Ty.dflt, StT] at *)
  all_goals (try simp only [eq4, ne4, eq3, ne3, eq2, ne2, Prod.eta, List.length_cons, List.length_nil, List.length_append, Nat.zero_add] at *)
  all_goals (try simp (disch := omega) only [wrap64] at *)
  all_goals try first | exact leafDraw (by kernel_rfl) | exact Leaf.mk trivial | (refine Leaf.mk ?_; omega) | (refine Leaf.mk ?_; unfold maxLen; omega)
  refine LoopVC.weak [(.slot 7, .nil 38 StT)] (fun i : Nat => [(13, .i .i64 i)]) (fun i => [(0, .arr 38 StT (fsN (inR lo hi) l i))]) (fun i => i ≤ l.length) (fun i => l.length - i) 0 (Ev.mk ?_)
  (conv => whnf)
  refine ⟨Leaf.mk rfl, Leaf.mk ?_, ?_⟩
  · omega
  intro i hii
  have hfl := fsN_len (inR lo hi) l i
  repeat' (first | ((with_reducible refine Ev.mk ?_); conv => whnf) | (with_reducible refine And.intro ?_ ?_) | (intro h))
  all_goals (try simp only [decide_eq_true_eq, decide_eq_false_iff_not, beq_iff_eq, bne_iff_ne, beq_eq_false_iff_ne, bne_eq_false_iff_eq, Int.toNat_natCast, ge_iff_le, gt_iff_lt, Bool.not_eq_true', Bool.not_eq_false', Int.not_lt, Int.not_le, ne_eq] at *)
  all_goals (try dsimp only [Ty.den, Ty.dflt, StT] at *)
  all_goals (try simp only [eq4, ne4, eq3, ne3, eq2, ne2, Prod.eta, List.length_cons, List.length_nil, List.length_append, Nat.zero_add] at *)
  all_goals (try simp (disch := omega) only [wrap64] at *)
  all_goals try first | exact leafDraw (by kernel_rfl) | exact Leaf.mk trivial | (refine Leaf.mk ?_; omega) | (refine Leaf.mk ?_; unfold maxLen; omega)
  all_goals first
    | (refine Leaf.mk ?_; omega)
    | (refine Leaf.mk ?_; unfold maxLen; omega)
    | (refine Leaf.mk ⟨i + 1, ?_, by omega, by omega⟩
       first
       | (rw [fsN_in (by omega) (by simp only [inR, withinK, Bool.and_eq_true, Bool.or_eq_true, beq_iff_eq, Bool.not_eq_true']; exact ⟨‹_›, by first | exact .inl ‹_› | exact .inr ‹_›⟩)]; rfl)
       | (rw [fsN_in (by omega) ‹withinK _ _ _ = true›]; rfl)
       | (rw [fsN_out (by omega) ‹withinK _ _ _ = false›]; rfl)
       | (rw [fsN_out (by omega) (by simp_all [inR, withinK])]; rfl))
    | (refine Leaf.mk (ret1 (show fsN (inR lo hi) l i = l.filter (inR lo hi) from ?_))
       rw [fsN, take_all (by omega)])
def sLRangeR : PSpec := ⟨[.d SsT, .d .str, .d .str], [⟨false, [.d SsT]⟩], fun x => List.length x.1 ≤ 100000, fun x => ((List.filter (α := Stk) (inR x.2.1 x.2.2.1) x.1, ()), ())⟩
theorem fLRangeR : FnOk Tryz.prog 23 := ⟨_, Tryz.func23, by decide, rfl⟩
theorem pLRangeR : PSound Tryz.prog 23 sLRangeR := by
  refine psound (T := tab) (S := (spOf [(83, sWithin.spec (lsOf []))])) (keep := k23) (by kernel_rfl) tabOk (spCons (pOk pWithin fWithin (by decide) lsNil) spNil) (by kernel_rfl) Tryz.func23 (by kernel_rfl) (by decide) fun xs hg hp => ?_
  obtain ⟨l, lo, hi, ⟨⟩⟩ := xs
  change List Stk at l
  change List UInt8 at lo hi
  change l.length ≤ 100000 at hp
  clear hg
  show vfun tab _ k23 Tryz.f23 [.sl StT l, .s lo, .s hi] [] _
  refine Ev.out ?_
  repeat' (first | ((with_reducible refine Ev.mk ?_); conv => whnf) | (with_reducible refine And.intro ?_ ?_) | (intro h))
  all_goals (try simp only [decide_eq_true_eq, decide_eq_false_iff_not, beq_iff_eq, bne_iff_ne, beq_eq_false_iff_ne, bne_eq_false_iff_eq, Int.toNat_natCast, ge_iff_le, gt_iff_lt, Bool.not_eq_true', Bool.not_eq_false', Int.not_lt, Int.not_le, ne_eq] at *)
  all_goals (try dsimp only [Ty.den, Ty.dflt, StT] at *)
  all_goals (try simp only [eq4, ne4, eq3, ne3, eq2, ne2, Prod.eta, List.length_cons, List.length_nil, List.length_append, Nat.zero_add] at *)
  all_goals (try simp (disch := omega) only [wrap64] at *)
  all_goals try first | exact leafDraw (by kernel_rfl) | exact Leaf.mk trivial | (refine Leaf.mk ?_; omega) | (refine Leaf.mk ?_; unfold maxLen; omega)
  refine LoopVC.weak [(.slot 7, .nil 38 StT)] (fun i : Nat => [(8, .i .i64 i)]) (fun i => [(0, .arr 38 StT (fsN (inR lo hi) l i))]) (fun i => i ≤ l.length) (fun i => l.length - i) 0 (Ev.mk ?_)
  (conv => whnf)
  refine ⟨Leaf.mk rfl, Leaf.mk ?_, ?_⟩
  · omega
  intro i hii
  have hfl := fsN_len (inR lo hi) l i
  repeat' (first | ((with_reducible refine Ev.mk ?_); conv => whnf) | (with_reducible refine And.intro ?_ ?_) | (intro h))
  all_goals (try simp only [decide_eq_true_eq, decide_eq_false_iff_not, beq_iff_eq, bne_iff_ne, beq_eq_false_iff_ne, bne_eq_false_iff_eq, Int.toNat_natCast, ge_iff_le, gt_iff_lt, Bool.not_eq_true', Bool.not_eq_false', Int.not_lt, Int.not_le, ne_eq] at *)
  all_goals (try dsimp only [Ty.den, Ty.dflt, StT] at *)
  all_goals (try simp only [eq4, ne4, eq3, ne3, eq2, ne2, Prod.eta, List.length_cons, List.length_nil, List.length_append, Nat.zero_add] at *)
  all_goals (try simp (disch := omega) only [wrap64] at *)
  all_goals try first | exact leafDraw (by kernel_rfl) | exact Leaf.mk trivial | (refine Leaf.mk ?_; omega) | (refine Leaf.mk ?_; unfold maxLen; omega)
  all_goals first
    | (refine Leaf.mk ?_; omega)
    | (refine Leaf.mk ?_; unfold maxLen; omega)
    | (refine Leaf.mk ⟨i + 1, ?_, by omega, by omega⟩
       first
       | (rw [fsN_in (by omega) (by simp only [inR, withinK, Bool.and_eq_true, Bool.or_eq_true, beq_iff_eq, Bool.not_eq_true']; exact ⟨‹_›, by first | exact .inl ‹_› | exact .inr ‹_›⟩)]; rfl)
       | (rw [fsN_in (by omega) ‹withinK _ _ _ = true›]; rfl)
       | (rw [fsN_out (by omega) ‹withinK _ _ _ = false›]; rfl)
       | (rw [fsN_out (by omega) (by simp_all [inR, withinK])]; rfl))
    | (refine Leaf.mk (ret1 (show fsN (inR lo hi) l i = l.filter (inR lo hi) from ?_))
       rw [fsN, take_all (by omega)])
theorem pOverlapsT : XOk Tryz.prog 145 xOverlaps := xOverlaps_ok tabOk Tryz.func145 (by kernel_rfl) (by kernel_rfl) (by kernel_rfl) (by kernel_rfl) (t := 22) rfl rfl (by rfl)
def sInsertT : OSpec := ⟨38, StT, [.d (.int .i64), .o 38 StT], fun xs y => 0 ≤ y.1 ∧ y.1 ≤ (xs.length : Int) ∧ xs.length + List.length y.2.1 ≤ 1000000, fun xs y => xs.take y.1.toNat ++ (y.2.1 ++ xs.drop y.1.toNat)⟩
theorem fInsertT : FnOk Tryz.prog 77 := ⟨_, Tryz.func77, by decide, rfl⟩
theorem pInsertT : SpecOk Tryz.prog 77 sInsertT.spec := by
  refine oOk (T := tab) (S := (spOf [(145, xOverlaps)])) (keep := k77) (by kernel_rfl) tabOk (spCons (.inr pOverlapsT) spNil) (by kernel_rfl) Tryz.func77 (by kernel_rfl) (by decide) (by decide) fun xs ys k hg hgt hmax hp => ?_
  obtain ⟨i, vs, ⟨⟩⟩ := ys
  change List Stk at xs
  change List Stk at vs
  change Int at i
  change 0 ≤ i ∧ i ≤ (xs.length : Int) ∧ xs.length + vs.length ≤ 1000000 at hp
  clear hg hgt
  obtain ⟨i, rfl⟩ := Int.eq_ofNat_of_zero_le hp.1
  show vfun tab _ k77 Tryz.f77 [.vw 0 StT 0 xs.length true, .i .i64 i, .own 1] [(0, .raw 38 StT (xs.map some ++ List.replicate k (none : Option (Ty.den StT)))), (1, .arr 38 StT vs)] _
  refine Ev.out ?_
  repeat' (first | ((with_reducible refine Ev.mk ?_); conv => whnf) | (with_reducible refine And.intro ?_ ?_) | (intro h))
  all_goals (try simp only [decide_eq_true_eq, decide_eq_false_iff_not, beq_iff_eq, bne_iff_ne, beq_eq_false_iff_ne, bne_eq_false_iff_eq, Int.toNat_natCast, ge_iff_le, gt_iff_lt, Bool.not_eq_true', Bool.not_eq_false', Int.not_lt, Int.not_le, ne_eq] at *)
  all_goals (try dsimp only [Ty.den, Ty.dflt, StT] at *)
  all_goals (try simp only [eq4, ne4, eq3, ne3, eq2, ne2, Prod.eta, List.length_cons, List.length_nil, List.length_append, Nat.zero_add] at *)
  all_goals (try simp (disch := omega) only [wrap64] at *)
  all_goals (try simp only [Int.sub_zero, Int.toNat_natCast, Int.toNat_sub, Int.toNat_zero, Nat.zero_add, toNat_add', toNat_addsub, toNat_subadd, List.length_map, List.length_append, List.length_replicate, List.length_take, List.length_drop] at *)
  all_goals first | omega | skip
  all_goals try first | exact leafDraw (by kernel_rfl) | exact Leaf.mk trivial | (refine Leaf.mk ?_; omega) | (refine Leaf.mk ?_; unfold maxLen; omega)
  all_goals first
    | (refine Leaf.mk ?_; unfold maxLen at *; omega)
    | skip
  · refine Leaf.mk (readO_vw.trans (congrArg some (?_ : _ = (xs.take i ++ (vs ++ xs.drop i)).map some)))
    obtain rfl : vs = [] := List.eq_nil_of_length_eq_zero (by omega)
    change ((xs.map some ++ List.replicate k none).take _) = _
    rw [raw_take (by omega)]
    simp
  · refine Leaf.mk (readO_vw.trans (congrArg some (?_ : _ = (xs.take i ++ (vs ++ xs.drop i)).map some)))
    obtain rfl : i = xs.length := by omega
    change (List.take (α := Option Stk) _ _) = _
    rw [raw_take (by omega), tk3 (by simp)]
    simp
  · refine Leaf.mk (readO_vw.trans (congrArg some (?_ : _ = (xs.take i ++ (vs ++ xs.drop i)).map some)))
    obtain rfl : i = xs.length := by omega
    change (List.take (α := Option Stk) _ _) = _
    rw [raw_take (by omega), tk3 (by simp)]
    simp
  · refine Leaf.mk (?_ : (List.take _ (List.drop _ (xs.map some ++ List.replicate k none))).all Option.isSome = true); rw [raw_cut (by omega)]; exact raw_all
  · exact Leaf.mk (readO_vw.trans (congrArg some (ins_new (by omega) (by omega) (by omega))))
  · refine Leaf.mk (?_ : (List.take _ (List.drop _ (xs.map some ++ List.replicate k none))).all Option.isSome = true); rw [raw_cut (by omega)]; exact raw_all
  · exact Leaf.mk (readO_vw.trans (congrArg some (ins_in (by omega) (by omega))))
def lastL (k : List UInt8) (l : List Stk) : Nat → Nat
  | 0 => 0
  | i + 1 => if sless (l.getD i stk0).1 k = true then i + 1 else lastL k l i
theorem lastL_le (k : List UInt8) (l : List Stk) : ∀ i, lastL k l i ≤ i
  | 0 => Nat.le_refl _
  | i + 1 => by
    have := lastL_le k l i
    rw [lastL]; split <;> omega
def withF (l : List Stk) (k : List UInt8) : List Stk := if plL l k < 0 then l.take (lastL k l l.length) ++ (k, []) :: l.drop (lastL k l l.length) else l
end Go.Proofs.YtkmfjlfejdoehaaGreat

set_option linter.unusedVariables false
set_option linter.unusedSimpArgs false
set_option maxRecDepth 8000
set_option maxHeartbeats 4000000
namespace Go.Proofs.YtkmfjlfejdoehaaGreat
open Go.Eng
def cmpK (a b : List UInt8) : Int := Lib.compareBytes a b
theorem cmpK_lt : ∀ (a b : List UInt8), cmpK a b < 0 ↔ a < b
  | [], [] => by simp [cmpK, Lib.compareBytes]
  | [], _ :: _ => by simp [cmpK, Lib.compareBytes]
  | _ :: _, [] => by simp [cmpK, Lib.compareBytes]
  | a :: r, b :: s => by
    have ih := cmpK_lt r s
    unfold cmpK at *
    rw [Lib.compareBytes, List.cons_lt_cons_iff, ← ih]
    by_cases h1 : a < b
    · simp [h1]
    · by_cases h2 : b < a
      · have h3 : ¬ a = b := fun hc => by rw [hc] at h2; exact absurd h2 (by simp [UInt8.lt_iff_toNat_lt])
        simp [h1, h2, h3]
      · have h3 : a = b := by rw [UInt8.lt_iff_toNat_lt] at h1 h2; rw [← UInt8.toNat_inj]; omega
        subst h3
        simp [h1]
theorem cmpK_eq : ∀ (a b : List UInt8), cmpK a b = 0 ↔ a = b
  | [], [] => by simp [cmpK, Lib.compareBytes]
  | [], _ :: _ => by simp [cmpK, Lib.compareBytes]
  | _ :: _, [] => by simp [cmpK, Lib.compareBytes]
  | a :: r, b :: s => by
    have ih := cmpK_eq r s
    unfold cmpK at *
    rw [Lib.compareBytes, List.cons.injEq, ← ih]
    by_cases h1 : a < b
    · have h3 : ¬ a = b := fun hc => by rw [hc] at h1; exact absurd h1 (by simp [UInt8.lt_iff_toNat_lt])
      simp [h1, h3]
    · by_cases h2 : b < a
      · have h3 : ¬ a = b := fun hc => by rw [hc] at h2; exact absurd h2 (by simp [UInt8.lt_iff_toNat_lt])
        simp [h1, h2, h3]
      · have h3 : a = b := by rw [UInt8.lt_iff_toNat_lt] at h1 h2; rw [← UInt8.toNat_inj]; omega
        subst h3
        simp [h1]
theorem pXCmpStr : XOk Tryz.prog 237 xCmpStr := xCmpStr_ok Tryz.func237 (by kernel_rfl) (by kernel_rfl) (by kernel_rfl) (by kernel_rfl)
def sSCompare : PSpec := ⟨[.d .str, .d .str], [⟨false, [.d (.int .i64)]⟩], fun _ => True, fun x => ((cmpK x.1 x.2.1, ()), ())⟩
def sCmpString : PSpec := sSCompare
theorem fCmpString : FnOk Tryz.prog 195 := ⟨_, Tryz.func195, by decide, rfl⟩
theorem pCmpString : PSound Tryz.prog 195 sCmpString := by
  refine psound (T := tab) (S := (spOf [(237, xCmpStr)])) (keep := k195) (by kernel_rfl) tabOk (spCons (.inr pXCmpStr) spNil) (by kernel_rfl) Tryz.func195 (by kernel_rfl) (by decide) fun xs hg hp => ?_
  obtain ⟨a, b, ⟨⟩⟩ := xs
  change List UInt8 at a b
  show vfun tab _ k195 Tryz.f195 [.s a, .s b] [] _
  refine Ev.out ?_
  repeat' (first | ((with_reducible refine Ev.mk ?_); conv => whnf) | (with_reducible refine And.intro ?_ ?_) | (intro h))
  all_goals exact Leaf.mk rfl
theorem fSCompare : FnOk Tryz.prog 144 := ⟨_, Tryz.func144, by decide, rfl⟩
theorem pSCompare : PSound Tryz.prog 144 sSCompare := by
  refine psound (T := tab) (S := (spOf [(195, sCmpString.spec (lsOf []))])) (keep := k144) (by kernel_rfl) tabOk (spCons (pOk pCmpString fCmpString (by decide) lsNil) spNil) (by kernel_rfl) Tryz.func144 (by kernel_rfl) (by decide) fun xs hg hp => ?_
  obtain ⟨a, b, ⟨⟩⟩ := xs
  change List UInt8 at a b
  show vfun tab _ k144 Tryz.f144 [.s a, .s b] [] _
  refine Ev.out ?_
  repeat' (first | ((with_reducible refine Ev.mk ?_); conv => whnf) | (with_reducible refine And.intro ?_ ?_) | (intro h))
  all_goals first | exact Leaf.mk trivial | exact Leaf.mk rfl
def sByKey : PSpec := ⟨[.d StT, .d StT], [⟨false, [.d (.int .i64)]⟩], fun _ => True, fun x => ((cmpK x.1.1 x.2.1.1, ()), ())⟩
theorem fByKey : FnOk Tryz.prog 76 := ⟨_, Tryz.func76, by decide, rfl⟩
theorem pByKey : PSound Tryz.prog 76 sByKey := by
  refine psound (T := tab) (S := (spOf [(144, sSCompare.spec (lsOf []))])) (keep := k76) (by kernel_rfl) tabOk (spCons (pOk pSCompare fSCompare (by decide) lsNil) spNil) (by kernel_rfl) Tryz.func76 (by kernel_rfl) (by decide) fun xs hg hp => ?_
  obtain ⟨⟨key, xs⟩, ⟨key2, xs2⟩, ⟨⟩⟩ := xs
  show vfun tab _ k76 Tryz.f76 [.agg [.s key, .sl VerT xs], .agg [.s key2, .sl VerT xs2]] [] _
  refine Ev.out ?_
  repeat' (first | ((with_reducible refine Ev.mk ?_); conv => whnf) | (with_reducible refine And.intro ?_ ?_) | (intro h))
  all_goals first | exact Leaf.mk trivial | exact Leaf.mk rfl
end Go.Proofs.YtkmfjlfejdoehaaGreat

set_option linter.unusedVariables false
set_option linter.unusedSimpArgs false
set_option maxRecDepth 8000
set_option maxHeartbeats 4000000
namespace Go.Proofs.YtkmfjlfejdoehaaGreat
open Go.Eng
theorem fBinS : FnOk Tryz.prog 75 := ⟨_, Tryz.func75, by decide, rfl⟩
noncomputable def iBinS : Eng.Spec := inl tab (spOf [(76, sByKey.spec (lsOf []))]) k75 Tryz.f75
theorem pBinS : SpecOk Tryz.prog 75 iBinS := inl_ok tabOk (spCons (pOk pByKey fByKey (by decide) lsNil) spNil) (by kernel_rfl) Tryz.func75 (by kernel_rfl)
theorem fOver1i : FnOk Tryz.prog 78 := ⟨_, Tryz.func78, by decide, rfl⟩
noncomputable def iOver1i : Eng.Spec := inl tab (spOf [(79, sFold.spec (lsOf []))]) k78 Tryz.f78
theorem pOver1i : SpecOk Tryz.prog 78 iOver1i := inl_ok tabOk (spCons (pOk pFold fFold (by decide) lsNil) spNil) (by kernel_rfl) Tryz.func78 (by kernel_rfl)
theorem fDoneO : FnOk Tryz.prog 67 := ⟨_, Tryz.func67, by decide, rfl⟩
noncomputable def iDoneO : Eng.Spec := inl tab (spOf [(78, iOver1i)]) k67 Tryz.f67
theorem pDoneO : SpecOk Tryz.prog 67 iDoneO := inl_ok tabOk (spCons (.inl ⟨pOver1i, fOver1i⟩) spNil) (by kernel_rfl) Tryz.func67 (by kernel_rfl)
def fullP (s : Stk) : Bool := decide (0 < s.2.length)
def xN (l : List Stk) (ks : List (List UInt8)) (j : Nat) : List Stk := (ks.take j).foldl withF l
def overM (l : List Stk) (m : List Msg) (lo hi : List UInt8) : List Stk := (((keysF lo hi m).foldl withF (l.filter (inR lo hi))).map fun s => foldM s m).filter fullP
def RiseK (l : List Stk) : Prop := l.Pairwise fun a b => a.1 < b.1
theorem riseK_at {l : List Stk} (h : RiseK l) {a b : Nat} (hab : a < b) (hb : b < l.length) : (l.getD a stk0).1 < (l.getD b stk0).1 := by
  have e : ∀ i, (h : i < l.length) → l.getD i stk0 = l[i] := fun i h => by rw [List.getD_eq_getElem?_getD, List.getElem?_eq_getElem h]; rfl
  rw [e a (by omega), e b hb]
  exact (List.pairwise_iff_getElem.1 h) _ _ _ _ hab
theorem lastL_iff {k : List UInt8} {l : List Stk} (h : RiseK l) : ∀ n, n ≤ l.length → ∀ a, a < n → ((l.getD a stk0).1 < k ↔ a < lastL k l n)
  | 0, _, a, ha => by omega
  | n + 1, hn, a, ha => by
    rw [lastL]
    split
    · rename_i hs
      have hs := sless_iff.1 hs
      by_cases hx : a = n
      · subst hx; exact ⟨fun _ => by omega, fun _ => hs⟩
      · exact ⟨fun _ => by omega, fun _ => slt_trans (riseK_at h (show a < n by omega) (by omega)) hs⟩
    · rename_i hs
      have hle := lastL_le k l n
      by_cases hx : a = n
      · subst hx
        exact ⟨fun hc => absurd (sless_iff.2 hc) hs, fun hc => by omega⟩
      · exact lastL_iff h n (by omega) a (by omega)
theorem mid_eq {a b : Nat} (h : a + b ≤ 100000) : IntKind.i64.wrap ((IntKind.u64.wrap ((a : Int) + b)).fdiv (2 ^ min (Int.toNat 1) IntKind.u64.bits)) = (((a + b) / 2 : Nat) : Int) := by
  rw [wrapU64, Int.emod_eq_of_lt (by omega) (by omega), show (2 : Int) ^ min (Int.toNat 1) IntKind.u64.bits = 2 from rfl, Int.fdiv_eq_ediv_of_nonneg _ (by decide), wrap64 (by omega)]
  omega
theorem idxF_neg {α : Type} {p : α → Bool} : ∀ (xs : List α) (i : Nat), idxF p xs i < 0 ↔ ∀ x ∈ xs, p x = false
  | [], i => by simp [idxF]
  | x :: r, i => by
    rw [idxF]
    split
    · rename_i h
      exact ⟨fun hc => by omega, fun hc => by have := hc x List.mem_cons_self; rw [h] at this; cases this⟩
    · rename_i h
      rw [idxF_neg r (i + 1)]
      simp only [List.mem_cons, forall_eq_or_imp]
      exact ⟨fun hc => ⟨by simpa using h, hc⟩, fun hc => hc.2⟩
theorem plL_neg {l : List Stk} {k : List UInt8} : plL l k < 0 ↔ ∀ a, a < l.length → ¬ (l.getD a stk0).1 = k := by
  rw [plL, idxF_neg]
  constructor
  · intro h a ha hc
    have := h _ (getD_mem stk0 ha)
    rw [keyIs, hc] at this
    simp at this
  · intro h x hx
    obtain ⟨a, ha, rfl⟩ := List.mem_iff_getElem.1 hx
    have := h a ha
    rw [List.getD_eq_getElem?_getD, List.getElem?_eq_getElem ha] at this
    simpa [keyIs] using this
theorem withF_new {X : List Stk} {k : List UInt8} {q : Nat} (h : RiseK X) (hq : lastL k X X.length = q) (hn : X.length ≤ q ∨ ¬ (X.getD q stk0).1 = k) : withF X k = X.take q ++ (k, []) :: X.drop q := by
  rw [withF, hq, if_pos]
  rw [plL_neg]
  intro a ha hc
  have hi := lastL_iff (k := k) h X.length (Nat.le_refl _) a ha
  rw [hq] at hi
  by_cases haq : a < q
  · have := hi.2 haq; rw [hc] at this; exact slt_irrefl _ this
  · rcases hn with hn | hn
    · omega
    · by_cases he : a = q
      · subst he; exact hn hc
      · have h2 := riseK_at h (show q < a by omega) ha
        rw [hc] at h2
        have h3 := (lastL_iff (k := k) h X.length (Nat.le_refl _) q (by omega)).1 h2
        omega
theorem withF_old {X : List Stk} {k : List UInt8} {q : Nat} (hq : q < X.length) (he : (X.getD q stk0).1 = k) : withF X k = X := by
  rw [withF, if_neg]
  rw [plL_neg]
  exact fun h => h q hq he
theorem withF_rise {X : List Stk} {k : List UInt8} (h : RiseK X) : RiseK (withF X k) ∧ (withF X k).length ≤ X.length + 1 ∧ ∀ s ∈ withF X k, s ∈ X ∨ s = (k, []) := by
  rw [withF]
  split
  · rename_i hp
    have hle := lastL_le k X X.length
    have hno := plL_neg.1 hp
    have hiff := fun a (ha : a < X.length) => lastL_iff (k := k) h X.length (Nat.le_refl _) a ha
    generalize lastL k X X.length = q at *
    have g : ∀ a, (ha : a < X.length) → X.getD a stk0 = X[a] := fun a ha => by rw [List.getD_eq_getElem?_getD, List.getElem?_eq_getElem ha]; rfl
    have hsplit : (X.take q ++ X.drop q).Pairwise fun a b : Stk => a.1 < b.1 := by rw [List.take_append_drop]; exact h
    rw [List.pairwise_append] at hsplit
    have hlo : ∀ s ∈ X.take q, s.1 < k := fun s hs => by
      obtain ⟨a, ha, rfl⟩ := List.mem_iff_getElem.1 hs
      rw [List.length_take] at ha
      rw [List.getElem_take, ← g a (by omega)]
      exact (hiff a (by omega)).2 (by omega)
    have hhi : ∀ s ∈ X.drop q, k < s.1 := fun s hs => by
      obtain ⟨a, ha, rfl⟩ := List.mem_iff_getElem.1 hs
      rw [List.length_drop] at ha
      rw [List.getElem_drop, ← g (q + a) (by omega)]
      have h1 : ¬ (X.getD (q + a) stk0).1 < k := fun hc => by have := (hiff (q + a) (by omega)).1 hc; omega
      have h2 := hno (q + a) (by omega)
      rcases sle_cases (List.not_lt.1 h1) with h3 | h3
      · exact h3
      · exact absurd h3.symm h2
    refine ⟨?_, by simp only [List.length_append, List.length_cons, List.length_take, List.length_drop]; omega, fun s hs => ?_⟩
    · rw [RiseK, List.pairwise_append, List.pairwise_cons]
      refine ⟨hsplit.1, ⟨fun b hb => hhi b hb, hsplit.2.1⟩, fun a ha b hb => ?_⟩
      rcases List.mem_cons.1 hb with rfl | hb
      · exact hlo a ha
      · exact hsplit.2.2 a ha b hb
    · rcases List.mem_append.1 hs with hs | hs
      · exact .inl (List.mem_of_mem_take hs)
      · rcases List.mem_cons.1 hs with hs | hs
        · exact .inr hs
        · exact .inl (List.mem_of_mem_drop hs)
  · exact ⟨h, Nat.le_succ _, fun s hs => .inl hs⟩
theorem xN_at {r : List Stk} {ks : List (List UInt8)} {j : Nat} (h : j < ks.length) : xN r ks (j + 1) = withF (xN r ks j) (ks.getD j []) := foldl_at [] h
structure XOkk (X : List Stk) (n : Nat) : Prop where
  rise : RiseK X
  len : X.length ≤ n
  all : ∀ s ∈ X, s.2.length ≤ 1000
theorem XOkk.next {X : List Stk} {n : Nat} (h : XOkk X n) (k : List UInt8) : XOkk (withF X k) (n + 1) := by
  obtain ⟨h1, h2, h3⟩ := withF_rise (k := k) h.rise
  refine ⟨h1, by have := h.len; omega, fun s hs => ?_⟩
  rcases h3 s hs with h4 | rfl
  · exact h.all s h4
  · exact Nat.zero_le _
def dnN (f : Stk → Stk) (l : List Stk) (i : Nat) : List Stk := ((l.take i).map f).filter fullP
theorem dnN_len (f : Stk → Stk) (l : List Stk) (i : Nat) : (dnN f l i).length ≤ i := by
  refine Nat.le_trans (List.length_filter_le _ _) ?_
  rw [List.length_map, List.length_take]; omega
theorem dnN_in {f : Stk → Stk} {l : List Stk} {i : Nat} (h : i < l.length) (hr : fullP (f (l.getD i stk0)) = true) : dnN f l (i + 1) = dnN f l i ++ [f (l.getD i stk0)] := by
  rw [dnN, take_at stk0 h, List.map_append, List.filter_append, List.map_singleton, List.filter_cons, if_pos hr]; rfl
theorem dnN_out {f : Stk → Stk} {l : List Stk} {i : Nat} (h : i < l.length) (hr : fullP (f (l.getD i stk0)) = false) : dnN f l (i + 1) = dnN f l i := by
  rw [dnN, take_at stk0 h, List.map_append, List.filter_append, List.map_singleton, List.filter_cons, if_neg (by rw [hr]; simp), List.filter_nil, List.append_nil]; rfl
def sLOver : PSpec := ⟨[.d SsT, .d MsT, .d .str, .d .str], [⟨false, [.d SsT]⟩], fun x => List.length x.1 ≤ 1000 ∧ List.length x.2.1 ≤ 1000 ∧ (∀ s ∈ x.1, List.length s.2 ≤ 1000) ∧ RiseK x.1, fun x => ((overM x.1 x.2.1 x.2.2.1 x.2.2.2.1, ()), ())⟩
theorem fLOver : FnOk Tryz.prog 17 := ⟨_, Tryz.func17, by decide, rfl⟩
theorem pLOver : PSound Tryz.prog 17 sLOver := by
  refine psound (T := tab) (S := (spOf [(22, sLRange.spec (lsOf [])), (74, sKeys.spec (lsOf [])), (75, iBinS), (76, sByKey.spec (lsOf [])), (77, sInsertT.spec), (67, iDoneO), (78, iOver1i), (79, sFold.spec (lsOf []))])) (keep := k17) (by kernel_rfl) tabOk (spCons (pOk pLRange fLRange (by decide) lsNil) (spCons (pOk pKeys fKeys (by decide) lsNil) (spCons (.inl ⟨pBinS, fBinS⟩) (spCons (pOk pByKey fByKey (by decide) lsNil) (spCons (.inl ⟨pInsertT, fInsertT⟩) (spCons (.inl ⟨pDoneO, fDoneO⟩) (spCons (.inl ⟨pOver1i, fOver1i⟩) (spCons (pOk pFold fFold (by decide) lsNil) spNil)))))))) (by kernel_rfl) Tryz.func17 (by kernel_rfl) (by decide) fun xs hg hp => ?_
  obtain ⟨l, m, lo, hi, ⟨⟩⟩ := xs
  change List Stk at l
  change List Msg at m
  change List UInt8 at lo hi
  change l.length ≤ 1000 ∧ m.length ≤ 1000 ∧ (∀ s ∈ l, List.length s.2 ≤ 1000) ∧ RiseK l at hp
  obtain ⟨hl, hm, hs, hu⟩ := hp
  clear hg
  show vfun tab _ k17 Tryz.f17 [.sl StT l, .sl MsgT m, .s lo, .s hi] [] _
  refine Ev.out ?_
  repeat' (first | ((with_reducible refine Ev.mk ?_); conv => whnf) | (with_reducible refine And.intro ?_ ?_) | (intro h))
  all_goals (try simp only [decide_eq_true_eq, decide_eq_false_iff_not, beq_iff_eq, bne_iff_ne, beq_eq_false_iff_ne, bne_eq_false_iff_eq, Int.toNat_natCast, ge_iff_le, gt_iff_lt, Bool.not_eq_true', Bool.not_eq_false', Int.not_lt, Int.not_le, ne_eq] at *)
  all_goals (try dsimp only [Ty.den, Ty.dflt, StT] at *)
  all_goals (try simp only [eq4, ne4, eq3, ne3, eq2, ne2, Prod.eta, List.length_cons, List.length_nil, List.length_append, Nat.zero_add] at *)
  all_goals (try simp (disch := omega) only [wrap64] at *)
  all_goals try first | exact leafDraw (by kernel_rfl) | exact Leaf.mk trivial | (refine Leaf.mk ?_; omega) | (refine Leaf.mk ?_; unfold maxLen; omega)
  · exact Leaf.mk (show l.length ≤ 100000 by omega)
  · exact Leaf.mk (show m.length ≤ 100000 by omega)
  rw [show (sKeys.fn (m, lo, hi, ())).1.1 = keysF lo hi m from rfl, show (sLRange.fn (l, lo, hi, ())).1.1 = l.filter (inR lo hi) from rfl]
  have hkl : (keysF lo hi m).length ≤ m.length := by rw [keysF, sortU_fold]; exact Nat.le_trans (sortU_len _) (by rw [keysL, List.length_map]; exact List.length_filter_le _ _)
  have hr0 : XOkk (l.filter (inR lo hi)) 1000 := ⟨List.Pairwise.filter _ hu, Nat.le_trans (List.length_filter_le _ _) hl, fun s h => hs s (List.mem_filter.1 h).1⟩
  generalize hks : keysF lo hi m = ks at *
  generalize hrr : l.filter (inR lo hi) = r at *
  refine LoopVC.on (fun j : Nat => [(24, .i .i64 j)]) (fun j => [(1, .arr 38 StT (xN r ks j))]) (fun j => j ≤ ks.length ∧ XOkk (xN r ks j) (1000 + j)) (fun j => ks.length - j) 0 ?_ ⟨by omega, hr0⟩ ?_
  · rfl
  intro j ⟨hj, hXo⟩
  have hnx : j < ks.length → xN r ks (j + 1) = withF (xN r ks j) (ks.getD j []) := fun h => xN_at h
  generalize hX : xN r ks j = X at *
  have hXl := hXo.len
  repeat' (first | ((with_reducible refine Ev.mk ?_); conv => whnf) | (with_reducible refine And.intro ?_ ?_) | (intro h))
  all_goals (try simp only [decide_eq_true_eq, decide_eq_false_iff_not, beq_iff_eq, bne_iff_ne, beq_eq_false_iff_ne, bne_eq_false_iff_eq, Int.toNat_natCast, ge_iff_le, gt_iff_lt, Bool.not_eq_true', Bool.not_eq_false', Int.not_lt, Int.not_le, ne_eq] at *)
  all_goals (try dsimp only [Ty.den, Ty.dflt, StT] at *)
  all_goals (try simp only [eq4, ne4, eq3, ne3, eq2, ne2, Prod.eta, List.length_cons, List.length_nil, List.length_append, Nat.zero_add] at *)
  all_goals (try simp (disch := omega) only [wrap64] at *)
  all_goals try first | exact leafDraw (by kernel_rfl) | exact Leaf.mk trivial | (refine Leaf.mk ?_; omega) | (refine Leaf.mk ?_; unfold maxLen; omega)
  · have hR := hXo.rise
    have hq := lastL_le (ks.getD j []) X X.length
    have hiff := fun a (h : a < X.length) => lastL_iff (k := ks.getD j []) hR X.length (Nat.le_refl _) a h
    generalize hqq : lastL (ks.getD j []) X X.length = q at *
    refine LoopVC.on (fun ab : Nat × Nat => [(9, .i .i64 ab.1), (10, .i .i64 ab.2)]) (fun _ => []) (fun ab => ab.1 ≤ q ∧ q ≤ ab.2 ∧ ab.2 ≤ X.length) (fun ab => ab.2 - ab.1) (0, X.length) ?_ ⟨by omega, hq, Nat.le_refl _⟩ ?_
    · rfl
    intro ⟨a, b⟩ ⟨h1, h2, h3⟩
    dsimp only at h1 h2 h3
    repeat' (first | ((with_reducible refine Ev.mk ?_); conv => whnf) | (with_reducible refine And.intro ?_ ?_) | (intro h))
    all_goals (try simp only [decide_eq_true_eq, decide_eq_false_iff_not, beq_iff_eq, bne_iff_ne, beq_eq_false_iff_ne, bne_eq_false_iff_eq, Int.toNat_natCast, ge_iff_le, gt_iff_lt, Bool.not_eq_true', Bool.not_eq_false', Int.not_lt, Int.not_le, ne_eq] at *)
    all_goals (try dsimp only [Ty.den, Ty.dflt, StT] at *)
    all_goals (try simp only [eq4, ne4, eq3, ne3, eq2, ne2, Prod.eta, List.length_cons, List.length_nil, List.length_append, Nat.zero_add] at *)
    all_goals (try simp (disch := omega) only [wrap64] at *)
    all_goals try first | exact leafDraw (by kernel_rfl) | exact Leaf.mk trivial | (refine Leaf.mk ?_; omega) | (refine Leaf.mk ?_; unfold maxLen; omega)
    all_goals try rw [mid_eq (a := a) (b := b) (by omega)] at *
    all_goals try simp only [Int.toNat_natCast] at *
    all_goals try first
      | (refine Leaf.mk ?_; omega)
      | exact Leaf.mk trivial
      | (have hlt := (cmpK_lt (X.getD ((a + b) / 2) stk0).1 (ks.getD j [])).1 (show cmpK _ _ < 0 from ‹_›)
         have := (hiff ((a + b) / 2) (by omega)).1 hlt
         refine Leaf.mk (Exists.intro ((a + b) / 2 + 1, b) ⟨?_, ⟨by dsimp only; omega, by dsimp only; omega, by dsimp only; omega⟩, by dsimp only; omega⟩)
         try rw [wrap64 (by omega)]
         rfl)
      | (have hnl : ¬ (X.getD ((a + b) / 2) stk0).1 < ks.getD j [] := fun hc => by
           have h9 := (cmpK_lt (X.getD ((a + b) / 2) stk0).1 (ks.getD j [])).2 hc
           have h8 : 0 ≤ cmpK (X.getD ((a + b) / 2) stk0).1 (ks.getD j []) := ‹_›
           omega
         have : ¬ (a + b) / 2 < q := fun hc => hnl ((hiff ((a + b) / 2) (by omega)).2 hc)
         exact Leaf.mk (Exists.intro (a, (a + b) / 2) ⟨rfl, ⟨by dsimp only; omega, by dsimp only; omega, by dsimp only; omega⟩, by dsimp only; omega⟩))
    all_goals try
      have haq : a = q := by omega
      subst haq
      have hab : b = a := by omega
      subst hab
    all_goals try first
      | (refine Leaf.mk (show (0 : Int) ≤ _ ∧ _ ≤ ((X.length : Nat) : Int) ∧ X.length + 1 ≤ 1000000 from ?_); omega)
      | (refine Leaf.mk (show inK _ _ = true from ?_)
         rw [wrapU64, Int.emod_eq_of_lt (by omega) (by omega), show (2 : Int) ^ min (Int.toNat 1) IntKind.u64.bits = 2 from rfl, Int.fdiv_eq_ediv_of_nonneg _ (by decide)]
         simp only [inK, Bool.and_eq_true, decide_eq_true_eq]; omega)
    all_goals first
      | (have hw : withF X (ks.getD j []) = X := withF_old (q := b) (by omega) ((cmpK_eq _ _).1 (show cmpK (X.getD b stk0).1 (ks.getD j []) = 0 from ‹_›))
         refine Leaf.mk (Exists.intro (j + 1) ⟨?_, ⟨by omega, by rw [hnx (by omega)]; exact hXo.next (ks.getD j [])⟩, by omega⟩)
         rw [hnx (by omega), hw]; rfl)
      | (have hw : withF X (ks.getD j []) = sInsertT.fn X ((b : Int), [(ks.getD j [], [])], ()) := by
           show _ = X.take ((b : Nat) : Int).toNat ++ ([(ks.getD j [], [])] ++ X.drop ((b : Nat) : Int).toNat)
           rw [Int.toNat_natCast]
           refine withF_new hR hqq ?_
           first
           | exact .inl (by omega)
           | exact .inr (fun hc => (show ¬ cmpK (X.getD b stk0).1 (ks.getD j []) = 0 from ‹_›) ((cmpK_eq _ _).2 hc))
         refine Leaf.mk (Exists.intro (j + 1) ⟨?_, ⟨by omega, by rw [hnx (by omega)]; exact hXo.next (ks.getD j [])⟩, by omega⟩)
         rw [hnx (by omega), hw]; rfl)
  have hjj : xN r ks ks.length = X := by rw [← hX, show j = ks.length by omega]
  refine LoopVC.weak [(.slot 5, .nil 38 StT)] (fun i : Nat => [(11, .i .i64 i)]) (fun i => [(18, .arr 38 StT (dnN (fun s => foldM s m) X i))]) (fun i => i ≤ X.length) (fun i => X.length - i) 0 (Ev.mk ?_)
  (conv => whnf)
  refine ⟨Leaf.mk rfl, Leaf.mk ?_, ?_⟩
  · omega
  intro i hii
  have hdl := dnN_len (fun s => foldM s m) X i
  repeat' (first | ((with_reducible refine Ev.mk ?_); conv => whnf) | (with_reducible refine And.intro ?_ ?_) | (intro h))
  all_goals (try simp only [decide_eq_true_eq, decide_eq_false_iff_not, beq_iff_eq, bne_iff_ne, beq_eq_false_iff_ne, bne_eq_false_iff_eq, Int.toNat_natCast, ge_iff_le, gt_iff_lt, Bool.not_eq_true', Bool.not_eq_false', Int.not_lt, Int.not_le, ne_eq] at *)
  all_goals (try dsimp only [Ty.den, Ty.dflt, StT] at *)
  all_goals (try simp only [eq4, ne4, eq3, ne3, eq2, ne2, Prod.eta, List.length_cons, List.length_nil, List.length_append, Nat.zero_add] at *)
  all_goals (try simp (disch := omega) only [wrap64] at *)
  all_goals try first | exact leafDraw (by kernel_rfl) | exact Leaf.mk trivial | (refine Leaf.mk ?_; omega) | (refine Leaf.mk ?_; unfold maxLen; omega)
  all_goals first
    | (refine Leaf.mk ?_; omega)
    | (refine Leaf.mk ?_; unfold maxLen; omega)
    | (have := hXo.all _ (getD_mem stk0 (show i < X.length by omega))
       exact Leaf.mk (show (X.getD i stk0).2.length + m.length ≤ 50000 by omega))
    | (have h9 : (0 : Int) < (((foldM (X.getD i stk0) m).2.length : Nat) : Int) := ‹_›
       refine Leaf.mk ⟨i + 1, ?_, by omega, by omega⟩
       rw [dnN_in (by omega) (decide_eq_true (by omega))]; rfl)
    | (have h9 : (((foldM (X.getD i stk0) m).2.length : Nat) : Int) ≤ 0 := ‹_›
       refine Leaf.mk ⟨i + 1, ?_, by omega, by omega⟩
       rw [dnN_out (by omega) (decide_eq_false (by omega))]; rfl)
    | (refine Leaf.mk (ret1 (show dnN (fun s => foldM s m) X i = overM l m lo hi from ?_))
       rw [dnN, take_all (show X.length ≤ i by omega), overM, hks, hrr, ← hjj, xN, List.take_length])
end Go.Proofs.YtkmfjlfejdoehaaGreat

set_option linter.unusedVariables false
set_option linter.unusedSimpArgs false
set_option maxRecDepth 8000
set_option maxHeartbeats 4000000
namespace Go.Proofs.YtkmfjlfejdoehaaGreat
open Go.Eng
def sFull : PSpec := ⟨[.d SsT], [⟨false, [.d SsT]⟩], fun x => List.length x.1 ≤ 200000, fun x => ((List.filter (α := Stk) fullP x.1, ()), ())⟩
theorem fFull : FnOk Tryz.prog 73 := ⟨_, Tryz.func73, by decide, rfl⟩
theorem pFull : PSound Tryz.prog 73 sFull := by
  refine psound (T := tab) (S := (spOf [])) (keep := k73) (by kernel_rfl) tabOk spNil (by kernel_rfl) Tryz.func73 (by kernel_rfl) (by decide) fun xs hg hp => ?_
  obtain ⟨l, ⟨⟩⟩ := xs
  change List Stk at l
  change l.length ≤ 200000 at hp
  clear hg
  show vfun tab _ k73 Tryz.f73 [.sl StT l] [] _
  refine Ev.out ?_
  repeat' (first | ((with_reducible refine Ev.mk ?_); conv => whnf) | (with_reducible refine And.intro ?_ ?_) | (intro h))
  all_goals (try simp only [decide_eq_true_eq, decide_eq_false_iff_not, beq_iff_eq, bne_iff_ne, beq_eq_false_iff_ne, bne_eq_false_iff_eq, Int.toNat_natCast, ge_iff_le, gt_iff_lt, Bool.not_eq_true', Bool.not_eq_false', Int.not_lt, Int.not_le, ne_eq] at *)
  all_goals (try dsimp only [Ty.den, Ty.dflt, StT] at *)
  all_goals (try simp only [eq4, ne4, eq3, ne3, eq2, ne2, Prod.eta, List.length_cons, List.length_nil, List.length_append, Nat.zero_add] at *)
  all_goals (try simp (disch := omega) only [wrap64] at *)
  all_goals try first | exact leafDraw (by kernel_rfl) | exact Leaf.mk trivial | (refine Leaf.mk ?_; omega) | (refine Leaf.mk ?_; unfold maxLen; omega)
  refine LoopVC.weak [(.slot 3, .nil 38 StT)] (fun i : Nat => [(4, .i .i64 i)]) (fun i => [(0, .arr 38 StT (fsN fullP l i))]) (fun i => i ≤ l.length) (fun i => l.length - i) 0 (Ev.mk ?_)
  (conv => whnf)
  refine ⟨Leaf.mk rfl, Leaf.mk ?_, ?_⟩
  · omega
  intro i hii
  have hfl := fsN_len fullP l i
  repeat' (first | ((with_reducible refine Ev.mk ?_); conv => whnf) | (with_reducible refine And.intro ?_ ?_) | (intro h))
  all_goals (try simp only [decide_eq_true_eq, decide_eq_false_iff_not, beq_iff_eq, bne_iff_ne, beq_eq_false_iff_ne, bne_eq_false_iff_eq, Int.toNat_natCast, ge_iff_le, gt_iff_lt, Bool.not_eq_true', Bool.not_eq_false', Int.not_lt, Int.not_le, ne_eq] at *)
  all_goals (try dsimp only [Ty.den, Ty.dflt, StT] at *)
  all_goals (try simp only [eq4, ne4, eq3, ne3, eq2, ne2, Prod.eta, List.length_cons, List.length_nil, List.length_append, Nat.zero_add] at *)
  all_goals (try simp (disch := omega) only [wrap64] at *)
  all_goals try first | exact leafDraw (by kernel_rfl) | exact Leaf.mk trivial | (refine Leaf.mk ?_; omega) | (refine Leaf.mk ?_; unfold maxLen; omega)
  all_goals first
    | (refine Leaf.mk ?_; omega)
    | (refine Leaf.mk ?_; unfold maxLen; omega)
    | (refine Leaf.mk ⟨i + 1, ?_, by omega, by omega⟩
       first
       | (rw [fsN_in (by omega) (decide_eq_true (by dsimp only [stk0] at *; omega))]; rfl)
       | (rw [fsN_out (by omega) (decide_eq_false (by dsimp only [stk0] at *; omega))]; rfl))
    | (refine Leaf.mk (ret1 (show fsN fullP l i = l.filter fullP from ?_))
       rw [fsN, take_all (by omega)])
theorem findF_is {l : List Stk} {k : List UInt8} : (findF l k).2 = false ↔ plL l k < 0 := by
  rw [findF]; split
  · simp; assumption
  · simp; omega
def sLWithR : PSpec := ⟨[.d SsT, .d .str], [⟨false, [.d SsT]⟩], fun x => List.length x.1 ≤ 100000, fun x => ((withF x.1 x.2.1, ()), ())⟩
theorem fLWithR : FnOk Tryz.prog 71 := ⟨_, Tryz.func71, by decide, rfl⟩
theorem pLWithR : PSound Tryz.prog 71 sLWithR := by
  refine psound (T := tab) (S := (spOf [(20, sLFindR.spec (lsOf []))])) (keep := k71) (by kernel_rfl) tabOk (spCons (pOk pLFindR fLFindR (by decide) lsNil) spNil) (by kernel_rfl) Tryz.func71 (by kernel_rfl) (by decide) fun xs hg hp => ?_
  obtain ⟨l, k, ⟨⟩⟩ := xs
  change List Stk at l
  change List UInt8 at k
  change l.length ≤ 100000 at hp
  clear hg
  show vfun tab _ k71 Tryz.f71 [.sl StT l, .s k] [] _
  refine Ev.out ?_
  repeat' (first | ((with_reducible refine Ev.mk ?_); conv => whnf) | (with_reducible refine And.intro ?_ ?_) | (intro h))
  all_goals (try simp only [decide_eq_true_eq, decide_eq_false_iff_not, beq_iff_eq, bne_iff_ne, beq_eq_false_iff_ne, bne_eq_false_iff_eq, Int.toNat_natCast, ge_iff_le, gt_iff_lt, Bool.not_eq_true', Bool.not_eq_false', Int.not_lt, Int.not_le, ne_eq] at *)
  all_goals (try dsimp only [Ty.den, Ty.dflt, StT] at *)
  all_goals (try simp only [eq4, ne4, eq3, ne3, eq2, ne2, Prod.eta, List.length_cons, List.length_nil, List.length_append, Nat.zero_add] at *)
  all_goals (try simp (disch := omega) only [wrap64] at *)
  all_goals try first | exact leafDraw (by kernel_rfl) | exact Leaf.mk trivial | (refine Leaf.mk ?_; omega) | (refine Leaf.mk ?_; unfold maxLen; omega)
  · refine Leaf.mk (ret1 (show l = withF l k from ?_))
    have h9 : ¬ plL l k < 0 := fun hc => by
      rw [show (sLFindR.fn (l, k, ())).2.1.1 = (findF l k).2 from rfl, findF_is.2 hc] at h; cases h
    rw [withF, if_neg h9]
  have h9 : plL l k < 0 := findF_is.1 (show (findF l k).2 = false from h)
  refine LoopVC.on (fun i : Nat => [(7, .i .i64 (lastL k l i)), (8, .i .i64 i)]) (fun _ => []) (fun i => i ≤ l.length) (fun i => l.length - i) 0 rfl (by omega) ?_
  intro i hi
  have hle := lastL_le k l i
  repeat' (first | ((with_reducible refine Ev.mk ?_); conv => whnf) | (with_reducible refine And.intro ?_ ?_) | (intro h))
  all_goals (try simp only [decide_eq_true_eq, decide_eq_false_iff_not, beq_iff_eq, bne_iff_ne, beq_eq_false_iff_ne, bne_eq_false_iff_eq, Int.toNat_natCast, ge_iff_le, gt_iff_lt, Bool.not_eq_true', Bool.not_eq_false', Int.not_lt, Int.not_le, ne_eq] at *)
  all_goals (try dsimp only [Ty.den, Ty.dflt, StT] at *)
  all_goals (try simp only [eq4, ne4, eq3, ne3, eq2, ne2, Prod.eta, List.length_cons, List.length_nil, List.length_append, Nat.zero_add] at *)
  all_goals (try simp (disch := omega) only [wrap64] at *)
  all_goals try first | exact leafDraw (by kernel_rfl) | exact Leaf.mk trivial | (refine Leaf.mk ?_; omega) | (refine Leaf.mk ?_; unfold maxLen; omega)
  all_goals first
    | (refine Leaf.mk ?_; simp only [List.length_drop, List.length_take]; omega)
    | (refine Leaf.mk ?_; simp only [List.length_drop, List.length_take]; unfold maxLen; omega)
    | (refine Leaf.mk (Exists.intro (i + 1) ⟨?_, by omega, by omega⟩)
       first
       | (rw [lastL, if_pos (show sless (l.getD i stk0).1 k = true from ‹_›)]; rfl)
       | (rw [lastL, if_neg (by rw [show sless (l.getD i stk0).1 k = false from ‹_›]; simp)]; rfl))
    | (refine Leaf.mk (ret1 (show _ = withF l k from ?_))
       rw [withF, if_pos h9, show i = l.length by omega, Int.toNat_zero, List.drop_zero, take_all (Nat.le_refl l.length), List.append_assoc]; rfl)
end Go.Proofs.YtkmfjlfejdoehaaGreat

set_option linter.unusedVariables false
set_option linter.unusedSimpArgs false
set_option maxRecDepth 8000
set_option maxHeartbeats 4000000
namespace Go.Proofs.YtkmfjlfejdoehaaGreat
open Go.Eng
def mpN (f : Stk → Stk) (l : List Stk) (i : Nat) : List Stk := (l.take i).map f
theorem mpN_len (f : Stk → Stk) (l : List Stk) (i : Nat) : (mpN f l i).length ≤ i := by rw [mpN, List.length_map, List.length_take]; omega
theorem mpN_at {f : Stk → Stk} {l : List Stk} {i : Nat} (h : i < l.length) : mpN f l (i + 1) = mpN f l i ++ [f (l.getD i stk0)] := map_at stk0 h
end Go.Proofs.YtkmfjlfejdoehaaGreat
