import Derived.Test.YtkmfjlfejdoehaaGreatQ6
import Derived.Test.YtkmfjlfejdoehaaGreatTab
import Derived.Test.YtkmfjlfejdoehaaGreatEng4
import Derived.Test.YtkmfjlfejdoehaaGreatEng3
/- Texts, one behind the other. -/
set_option linter.unusedVariables false
set_option linter.unusedSimpArgs false
namespace Go.Proofs.YtkmfjlfejdoehaaGreat
open Go.Eng
abbrev RP : List RK := [.d BT, .d (.int .i64)]
def sNew : NSpec := ⟨[.d BT], RP, fun x => x.1.length ≤ 100000, fun x => (x.1, 0, ())⟩
theorem fNew : FnOk Tryz.prog 95 := ⟨_, Tryz.func95, by decide, rfl⟩
theorem pNew : NSound Tryz.prog 95 sNew := by
  refine nsound (T := tab) (S := (spOf [(159, sBClone.spec (lsOf []))])) (keep := k95) (by kernel_rfl) tabOk (spCons (pOk pBClone fBClone (by decide) lsNil) spNil) (by kernel_rfl) Tryz.func95 rfl (by kernel_rfl) (by decide) fun xs hg hp => ?_
  obtain ⟨xs, ⟨⟩⟩ := xs
  change List Int at xs
  change xs.length ≤ 100000 at hp
  show vfun tab _ k95 Tryz.f95 [.sl (.int .u8) xs] [] _
  refine Ev.out ?_
  repeat' (first | ((with_reducible refine Ev.mk ?_); conv => whnf) | (with_reducible refine And.intro ?_ ?_) | (intro h))
  all_goals (try simp only [decide_eq_true_eq, decide_eq_false_iff_not, beq_iff_eq, bne_iff_ne, beq_eq_false_iff_ne, bne_eq_false_iff_eq, Int.toNat_natCast, ge_iff_le, gt_iff_lt, Bool.not_eq_true', Bool.not_eq_false', Int.not_lt, Int.not_le, ne_eq] at *)
  all_goals (try dsimp only [Ty.den, Ty.dflt, BT, sBClone] at *)
  all_goals (try simp only [eq4, ne4, eq3, ne3, eq2, ne2, Prod.eta, List.length_cons, List.length_nil, List.length_append, Nat.zero_add] at *)
  all_goals (try simp (disch := omega) only [wrap64] at *)
  all_goals try first | exact leafDraw (by kernel_rfl) | exact Leaf.mk trivial | (refine Leaf.mk ?_; omega) | (refine Leaf.mk ?_; unfold maxLen; omega)
  · exact Leaf.mk rfl
def sState : MSpec := ⟨[.m RP], [⟨false, [.d (.int .i64)]⟩], fun _ => True, fun x => ((x.1.2.1, ()), x.1, ())⟩
theorem fState : FnOk Tryz.prog 160 := ⟨_, Tryz.func160, by decide, rfl⟩
theorem pState : SpecOk Tryz.prog 160 sState.spec := by
  refine mOk (T := tab) (S := (spOf [])) (keep := k160m) tabOk spNil (by kernel_rfl) Tryz.func160 (by kernel_rfl) (by kernel_rfl) (by decide) fun xs hg hp => ?_
  obtain ⟨⟨b, e, ⟨⟩⟩, ⟨⟩⟩ := xs
  change List Int at b
  change Int at e
  show vfunM tab _ k160m Tryz.f160 [.ptr 0 0] [(0, .box [.sl (.int .u8) b, .i .i64 e])] _
  refine Ev.out ?_
  repeat' (first | ((with_reducible refine Ev.mk ?_); conv => whnf) | (with_reducible refine And.intro ?_ ?_) | (intro h))
  all_goals exact Leaf.mk rfl
def sDone : MSpec := ⟨[.m RP], [⟨false, [.d (.int .i64)]⟩], fun _ => True, fun x => ((if ¬ x.1.2.1 = 0 then x.1.2.1 else if List.length (α := Int) x.1.1 = 0 then 0 else 4, ()), x.1, ())⟩
theorem fDone : FnOk Tryz.prog 163 := ⟨_, Tryz.func163, by decide, rfl⟩
theorem pDone : SpecOk Tryz.prog 163 sDone.spec := by
  refine mOk (T := tab) (S := (spOf [(160, sState.spec)])) (keep := k163m) tabOk (spCons (.inl ⟨pState, fState⟩) spNil) (by kernel_rfl) Tryz.func163 (by kernel_rfl) (by kernel_rfl) (by decide) fun xs hg hp => ?_
  obtain ⟨⟨b, e, ⟨⟩⟩, ⟨⟩⟩ := xs
  change List Int at b
  change Int at e
  show vfunM tab _ k163m Tryz.f163 [.ptr 0 0] [(0, .box [.sl (.int .u8) b, .i .i64 e])] _
  refine Ev.out ?_
  repeat' (first | ((with_reducible refine Ev.mk ?_); conv => whnf) | (with_reducible refine And.intro ?_ ?_) | (intro h))
  all_goals (try simp only [decide_eq_true_eq, decide_eq_false_iff_not, beq_iff_eq, bne_iff_ne, beq_eq_false_iff_ne, bne_eq_false_iff_eq, Int.toNat_natCast, ge_iff_le, gt_iff_lt, Bool.not_eq_true', Bool.not_eq_false', Int.not_lt, Int.not_le, ne_eq] at *)
  all_goals (try dsimp only [Ty.den, Ty.dflt, BT, sState] at *)
  all_goals (try simp only [eq4, ne4, eq3, ne3, eq2, ne2, Prod.eta, List.length_cons, List.length_nil, List.length_append, Nat.zero_add] at *)
  all_goals (try simp (disch := omega) only [wrap64] at *)
  · exact Leaf.mk trivial
  · refine Leaf.mk (show some _ = some _ from ?_)
    dsimp only [sDone]; rw [if_pos h]
  · rename_i h0
    have h1 : b.length = 0 := by omega
    refine Leaf.mk (show some _ = some _ from ?_)
    dsimp only [sDone]; rw [if_neg (fun hh => hh h0), if_pos h1, h0]
  · rename_i h0
    have h1 : ¬ b.length = 0 := by omega
    refine Leaf.mk (show some _ = some _ from ?_)
    dsimp only [sDone]; rw [if_neg (fun hh => hh h0), if_neg h1]
theorem txt_bd : ∀ (n : Nat) (xs acc : List Int) (p : Nat), xs.length ≤ n → 0 ≤ (txt xs acc p).2.1 ∧ (txt xs acc p).2.1 ≤ ((p + xs.length : Nat) : Int)
  | _, [], acc, p, _ => ⟨Int.le_refl _, by show (0 : Int) ≤ _; omega⟩
  | 0, _ :: _, _, _, h => by simp at h
  | n + 1, c :: r, acc, p, h => by
    simp only [List.length_cons] at h
    by_cases hc : c = 0
    · cases r with
      | nil => rw [txt_end hc]; exact ⟨Int.le_refl _, by show (0 : Int) ≤ _; omega⟩
      | cons d t =>
        simp only [List.length_cons] at h
        rw [txt_esc hc]
        split
        · simp only [List.length_cons]; omega
        · split
          · have := txt_bd n t (acc ++ [0]) (p + 2) (by omega)
            simp only [List.length_cons]; omega
          · exact ⟨Int.le_refl _, by show (0 : Int) ≤ _; omega⟩
    · rw [txt_ne hc]
      have := txt_bd n r (acc ++ [c]) (p + 1) (by omega)
      simp only [List.length_cons]; omega
theorem getText_bd (b : List Int) : 0 ≤ (getText b).2.1 ∧ (getText b).2.1 ≤ (b.length : Int) := by
  have := txt_bd b.length b [] 0 (Nat.le_refl _)
  simpa [getText] using this
theorem putR {α : Type} {u v : α × List Int × Int} (h : u = v) : (some ((u.1, ()), (u.2.1, u.2.2, ()), ()) : Option ((α × Unit) × (List Int × Int × Unit) × Unit)) = some ((v.1, ()), (v.2.1, v.2.2, ()), ()) := by rw [h]
theorem getSmall_bd {b : List Int} (hx : ∀ x ∈ b, Eng.Good (.int .u8) x) : (0 ≤ (getSmall b).2.1 ∧ (getSmall b).2.1 ≤ (b.length : Int)) ∧ 0 ≤ (getSmall b).1 := by
  have h0 := byte0 hx 0
  have hn := numB_bd ((b.take (b.getD 0 0 + 1).toNat).drop 1)
  unfold getSmall
  split
  · simp
  · split
    · simp
    · split
      · simp
      · split
        · simp
        · refine ⟨⟨?_, ?_⟩, hn.1⟩ <;> dsimp only <;> omega
def rdText (b : List Int) (e most : Int) : List UInt8 × List Int × Int :=
  if ¬ e = 0 then ([], b, e) else if ¬ (getText b).2.2 = 0 then ([], b, (getText b).2.2)
  else if (if 0 < most then most else 0) < ((getText b).1.length : Int) then ([], b, 5) else ((getText b).1, b.drop (getText b).2.1.toNat, 0)
def sText : MSpec := ⟨[.m RP, .d (.int .i64)], [⟨false, [.d .str]⟩], fun x => x.1.1.length ≤ 100000, fun x => (((rdText x.1.1 x.1.2.1 x.2.1).1, ()), ((rdText x.1.1 x.1.2.1 x.2.1).2.1, (rdText x.1.1 x.1.2.1 x.2.1).2.2, ()), ())⟩
theorem fText : FnOk Tryz.prog 162 := ⟨_, Tryz.func162, by decide, rfl⟩
theorem pText : SpecOk Tryz.prog 162 sText.spec := by
  refine mOk (T := tab) (S := (spOf [(160, sState.spec), (207, sGetText.spec (lsOf []))])) (keep := k162m) tabOk (spCons (.inl ⟨pState, fState⟩) (spCons (pOk pGetText fGetText (by decide) lsNil) spNil)) (by kernel_rfl) Tryz.func162 (by kernel_rfl) (by kernel_rfl) (by decide) fun xs hg hp => ?_
  obtain ⟨⟨b, e, ⟨⟩⟩, most, ⟨⟩⟩ := xs
  change List Int at b
  change Int at e
  change Int at most
  change b.length ≤ 100000 at hp
  show vfunM tab _ k162m Tryz.f162 [.ptr 0 0, .i .i64 most] [(0, .box [.sl (.int .u8) b, .i .i64 e])] _
  refine Ev.out ?_
  repeat' (first | ((with_reducible refine Ev.mk ?_); conv => whnf) | (with_reducible refine And.intro ?_ ?_) | (intro h))
  all_goals (try simp only [decide_eq_true_eq, decide_eq_false_iff_not, beq_iff_eq, bne_iff_ne, beq_eq_false_iff_ne, bne_eq_false_iff_eq, Int.toNat_natCast, ge_iff_le, gt_iff_lt, Bool.not_eq_true', Bool.not_eq_false', Int.not_lt, Int.not_le, ne_eq] at *)
  all_goals (try dsimp only [Ty.den, Ty.dflt, BT, sState, sGetText] at *)
  all_goals (try simp only [eq4, ne4, eq3, ne3, eq2, ne2, Prod.eta, List.length_cons, List.length_nil, List.length_append, Nat.zero_add] at *)
  all_goals (try simp (disch := omega) only [wrap64] at *)
  all_goals have hb := getText_bd b
  all_goals try first | exact leafDraw (by kernel_rfl) | exact Leaf.mk trivial | (refine Leaf.mk ?_; omega) | (refine Leaf.mk ?_; unfold maxLen; omega)
  · refine Leaf.mk (putR (u := ([], b, e)) (v := rdText b e most) ?_)
    rw [rdText, if_pos h]
  · rename_i h1 h2 h3
    refine Leaf.mk (putR (u := ([], b, 5)) (v := rdText b e most) ?_)
    rw [rdText, if_neg (fun hh => hh h1), if_neg (fun hh => hh h2), if_pos h3]
  · rename_i h1 h2 h3
    rw [List.take_length]
    refine Leaf.mk (putR (u := ((getText b).1, b.drop (getText b).2.1.toNat, e)) (v := rdText b e most) ?_)
    rw [rdText, if_neg (fun hh => hh h1), if_neg (fun hh => hh h2), if_neg (by omega), h1]
  · rename_i h1 h2
    refine Leaf.mk (putR (u := ([], b, (getText b).2.2)) (v := rdText b e most) ?_)
    rw [rdText, if_neg (fun hh => hh h1), if_pos h2]
def rdSmall (b : List Int) (e : Int) : Int × List Int × Int :=
  if ¬ e = 0 then (0, b, e) else if ¬ (getSmall b).2.2 = 0 then (0, b, (getSmall b).2.2)
  else if 1099511627776 < (getSmall b).1 then (0, b, 9) else ((getSmall b).1, b.drop (getSmall b).2.1.toNat, 0)
def sSmall : MSpec := ⟨[.m RP], [⟨false, [.d (.int .i64)]⟩], fun x => x.1.1.length ≤ 100000, fun x => (((rdSmall x.1.1 x.1.2.1).1, ()), ((rdSmall x.1.1 x.1.2.1).2.1, (rdSmall x.1.1 x.1.2.1).2.2, ()), ())⟩
theorem fSmall : FnOk Tryz.prog 96 := ⟨_, Tryz.func96, by decide, rfl⟩
theorem pSmall : SpecOk Tryz.prog 96 sSmall.spec := by
  refine mOk (T := tab) (S := (spOf [(160, sState.spec), (161, sGetSmall.spec (lsOf []))])) (keep := k96m) tabOk (spCons (.inl ⟨pState, fState⟩) (spCons (pOk pGetSmall fGetSmall (by decide) lsNil) spNil)) (by kernel_rfl) Tryz.func96 (by kernel_rfl) (by kernel_rfl) (by decide) fun xs hg hp => ?_
  obtain ⟨⟨b, e, ⟨⟩⟩, ⟨⟩⟩ := xs
  change List Int at b
  change Int at e
  change b.length ≤ 100000 at hp
  obtain ⟨⟨⟨hl, hx⟩, -⟩, -⟩ := hg
  clear hl
  change ∀ x ∈ b, Eng.Good (.int .u8) x at hx
  have hb0 := getSmall_bd hx
  clear hx
  show vfunM tab _ k96m Tryz.f96 [.ptr 0 0] [(0, .box [.sl (.int .u8) b, .i .i64 e])] _
  refine Ev.out ?_
  repeat' (first | ((with_reducible refine Ev.mk ?_); conv => whnf) | (with_reducible refine And.intro ?_ ?_) | (intro h))
  all_goals (try simp only [decide_eq_true_eq, decide_eq_false_iff_not, beq_iff_eq, bne_iff_ne, beq_eq_false_iff_ne, bne_eq_false_iff_eq, Int.toNat_natCast, ge_iff_le, gt_iff_lt, Bool.not_eq_true', Bool.not_eq_false', Int.not_lt, Int.not_le, ne_eq] at *)
  all_goals (try dsimp only [Ty.den, Ty.dflt, BT, sState, sGetSmall] at *)
  all_goals (try simp only [eq4, ne4, eq3, ne3, eq2, ne2, Prod.eta, List.length_cons, List.length_nil, List.length_append, Nat.zero_add] at *)
  all_goals (try simp (disch := omega) only [wrap64] at *)
  all_goals try first | exact leafDraw (by kernel_rfl) | exact Leaf.mk trivial | (refine Leaf.mk ?_; omega) | (refine Leaf.mk ?_; unfold maxLen; omega)
  · refine Leaf.mk (putR (u := (0, b, e)) (v := rdSmall b e) ?_)
    rw [rdSmall, if_pos h]
  · rename_i h1 h2 h3
    refine Leaf.mk (putR (u := (0, b, 9)) (v := rdSmall b e) ?_)
    rw [rdSmall, if_neg (fun hh => hh h1), if_neg (fun hh => hh h2), if_pos h3]
  · rename_i h1 h2 h3
    rw [List.take_length]
    refine Leaf.mk (putR (u := ((getSmall b).1, b.drop (getSmall b).2.1.toNat, e)) (v := rdSmall b e) ?_)
    rw [rdSmall, if_neg (fun hh => hh h1), if_neg (fun hh => hh h2), if_neg (by omega), h1]
  · rename_i h1 h2
    refine Leaf.mk (putR (u := (0, b, (getSmall b).2.2)) (v := rdSmall b e) ?_)
    rw [rdSmall, if_neg (fun hh => hh h1), if_pos h2]
end Go.Proofs.YtkmfjlfejdoehaaGreat

set_option linter.unusedVariables false
set_option linter.unusedSimpArgs false
namespace Go.Proofs.YtkmfjlfejdoehaaGreat
open Go.Eng
def isB (xs : List Int) : Prop := ∀ x ∈ xs, 0 ≤ x ∧ x ≤ 255
theorem isB_good {xs : List Int} (h : ∀ x ∈ xs, Eng.Good (.int .u8) x) : isB xs := fun x hx => byte_mem h hx
theorem isB_append {xs ys : List Int} (h : isB xs) (k : isB ys) : isB (xs ++ ys) := fun x hx => (List.mem_append.1 hx).elim (h x) (k x)
theorem isB_take {xs : List Int} (h : isB xs) (n : Nat) : isB (xs.take n) := fun x hx => h x (List.mem_of_mem_take hx)
theorem isB_str (s : List UInt8) : isB (bytesOfStr s) := fun x hx => by
  obtain ⟨c, _, rfl⟩ := List.mem_map.1 hx
  have := c.toNat_lt
  omega
theorem isB_put (s : List UInt8) : isB (putText s) := fun x hx => by
  unfold putText putB at hx
  rcases List.mem_append.1 hx with h | h
  · obtain ⟨c, hc, h⟩ := List.mem_flatMap.1 h
    have := isB_str s c hc
    unfold escI at h
    split at h <;> simp at h <;> omega
  · simp at h; omega
theorem isB_lay : ∀ (k : Nat) (n : Int), isB (layB n k)
  | 0, n => fun x hx => by simp [layB] at hx
  | k + 1, n => by
    rw [layB]
    refine isB_append (isB_lay k _) fun x hx => ?_
    simp at hx; omega
theorem isB_small (n : Int) : isB (putSmall n) := fun x hx => by
  unfold putSmall at hx
  rcases List.mem_cons.1 hx with h | h
  · have := widthN_le 8 n; omega
  · exact isB_lay _ _ x h
theorem str_bytes (s : List UInt8) : strOfBytes (bytesOfStr s) = s := by
  unfold strOfBytes bytesOfStr
  rw [List.map_map]
  conv => rhs; rw [← List.map_id s]
  refine List.map_congr_left fun c _ => ?_
  simp
theorem putB_cons (x : Int) (xs : List Int) : putB (x :: xs) = escI x ++ putB xs := by simp [putB]
end Go.Proofs.YtkmfjlfejdoehaaGreat

set_option linter.unusedVariables false
set_option linter.unusedSimpArgs false
namespace Go.Proofs.YtkmfjlfejdoehaaGreat
open Go.Eng
theorem p8 : (256 : Int) ^ 8 = 18446744073709551616 := by decide
theorem widthN_zero : ∀ f, widthN f 0 = 0
  | 0 => rfl
  | f + 1 => by rw [widthN, if_neg (by omega)]
theorem widthN_hi : ∀ (f : Nat) (n : Int), 0 ≤ n → n < 256 ^ f → n < 256 ^ (widthN f n)
  | 0, n, h1, h2 => h2
  | f + 1, n, h1, h2 => by
    rw [Int.pow_succ] at h2
    rw [widthN]
    split
    · have := widthN_hi f (n / 256) (by omega) (Int.ediv_lt_of_lt_mul (by decide) h2)
      rw [Int.pow_succ]; omega
    · rw [Int.pow_zero]; omega
theorem widthN_lo : ∀ (f : Nat) (n : Int), 0 < n → n < 256 ^ f → ∃ w, widthN f n = w + 1 ∧ 256 ^ w ≤ n
  | 0, n, h1, h2 => by rw [Int.pow_zero] at h2; omega
  | f + 1, n, h1, h2 => by
    rw [Int.pow_succ] at h2
    rw [widthN, if_pos h1]
    refine ⟨_, rfl, ?_⟩
    by_cases h0 : n / 256 = 0
    · rw [h0, widthN_zero, Int.pow_zero]; omega
    · obtain ⟨w, hw, hl⟩ := widthN_lo f (n / 256) (by omega) (Int.ediv_lt_of_lt_mul (by decide) h2)
      rw [hw, Int.pow_succ]; omega
theorem txt_put (b : List Int) : ∀ (xs acc : List Int) (p : Nat), txt (putB xs ++ b) acc p = (acc ++ xs, ((p + (putB xs).length : Nat) : Int), 0)
  | [], acc, p => by
    show txt (0 :: 1 :: b) acc p = _
    rw [txt_esc rfl, if_pos rfl, List.append_nil]; rfl
  | x :: xs, acc, p => by
    rw [putB_cons, List.append_assoc]
    unfold escI
    by_cases h : x = 0
    · rw [if_pos h]
      show txt (0 :: 255 :: (putB xs ++ b)) acc p = _
      rw [txt_esc rfl, if_neg (by omega), if_pos rfl, txt_put b xs]
      subst h
      simp only [List.append_assoc, List.cons_append, List.nil_append, List.length_cons]
      congr 3; omega
    · rw [if_neg h]
      show txt (x :: (putB xs ++ b)) acc p = _
      rw [txt_ne h, txt_put b xs]
      simp only [List.append_assoc, List.cons_append, List.nil_append, List.length_cons]
      congr 3; omega
theorem getText_put (s : List UInt8) (b : List Int) : getText (putText s ++ b) = (s, (((putText s).length : Nat) : Int), 0) := by
  unfold getText putText
  rw [txt_put]
  simp [str_bytes]
theorem numB_lay : ∀ (k : Nat) (n : Int), 0 ≤ n → n < 256 ^ k → n ≤ 18446744073709551615 → numB (layB n k) = n
  | 0, n, h1, h2, _ => by rw [Int.pow_zero] at h2; rw [show n = 0 by omega]; rfl
  | k + 1, n, h1, h2, h3 => by
    rw [Int.pow_succ] at h2
    have ih := numB_lay k (n / 256) (by omega) (Int.ediv_lt_of_lt_mul (by decide) h2) (by omega)
    unfold numB at ih ⊢
    rw [layB, List.foldl_append, ih]
    simp only [List.foldl_cons, List.foldl_nil]
    omega
theorem lay_head {n : Int} (hn : 0 < n) (h : n ≤ 18446744073709551615) : ∃ c r w, widthN 8 n = w + 1 ∧ layB n (widthN 8 n) = c :: r ∧ ¬ c = 0 := by
  obtain ⟨w, hw, hl⟩ := widthN_lo 8 n hn (by rw [p8]; omega)
  have hh := widthN_hi 8 n (by omega) (by rw [p8]; omega)
  rw [hw, Int.pow_succ] at hh
  refine ⟨_, _, w, hw, by rw [hw, layB_top], ?_⟩
  have hp : (0 : Int) < 256 ^ w := Int.pow_pos (by decide)
  have h1 : 1 ≤ n / 256 ^ w := by rw [Int.le_ediv_iff_mul_le hp]; omega
  have h2 : n / 256 ^ w < 256 := Int.ediv_lt_of_lt_mul hp (by omega)
  omega
theorem getSmall_put {n : Int} (hn : 0 ≤ n ∧ n ≤ 18446744073709551615) (b : List Int) : getSmall (putSmall n ++ b) = (n, (((putSmall n).length : Nat) : Int), 0) := by
  have hw := widthN_le 8 n
  have hl : (layB n (widthN 8 n)).length = widthN 8 n := layB_len _ _
  have h0 : (putSmall n ++ b).getD 0 0 = ((widthN 8 n : Nat) : Int) := by unfold putSmall; simp
  have hlen : (putSmall n).length = widthN 8 n + 1 := by unfold putSmall; simp [hl]
  have h1 : ¬ (0 < ((widthN 8 n : Nat) : Int) ∧ (putSmall n ++ b).getD 1 0 = 0) := by
    intro ⟨p, q⟩
    have : 0 < n := by
      rcases Int.lt_or_le 0 n with h | h
      · exact h
      · rw [show n = 0 by omega, widthN_zero] at p; omega
    obtain ⟨c, r, w, e1, e2, e3⟩ := lay_head this hn.2
    unfold putSmall at q
    rw [e2] at q
    simp at q
    exact e3 q
  unfold getSmall
  rw [h0, if_neg (by rw [List.length_append]; omega), if_neg (by omega), if_neg (by rw [List.length_append]; omega), if_neg h1]
  rw [show (((widthN 8 n : Nat) : Int) + 1).toNat = (putSmall n).length by omega, List.take_left' rfl]
  have e : (putSmall n).drop 1 = layB n (widthN 8 n) := rfl
  rw [e, numB_lay _ _ hn.1 (widthN_hi 8 n hn.1 (by rw [p8]; omega)) hn.2, hlen]
  rfl
end Go.Proofs.YtkmfjlfejdoehaaGreat

set_option linter.unusedVariables false
set_option linter.unusedSimpArgs false
namespace Go.Proofs.YtkmfjlfejdoehaaGreat
open Go.Eng
theorem putText_len (s : List UInt8) : (putText s).length ≤ 2 * s.length + 2 := by
  have := escI_len (bytesOfStr s)
  have e : (bytesOfStr s).length = s.length := by simp [bytesOfStr]
  simp only [putText, putB, List.length_append, List.length_cons, List.length_nil]; omega
theorem putSmall_len (n : Int) : 1 ≤ (putSmall n).length ∧ (putSmall n).length ≤ 9 := by
  have hw := widthN_le 8 n
  have hl : (layB n (widthN 8 n)).length = widthN 8 n := layB_len _ _
  simp only [putSmall, List.length_cons]; omega
theorem bytes_str : ∀ (xs : List Int), isB xs → bytesOfStr (strOfBytes xs) = xs
  | [], _ => rfl
  | x :: r, h => by
    have hx := h x (by simp)
    have ih := bytes_str r (fun z hz => h z (by simp [hz]))
    show ((UInt8.ofNat x.toNat).toNat : Int) :: bytesOfStr (strOfBytes r) = _
    rw [ih, UInt8.toNat_ofNat']
    congr 1; omega
theorem str_inj {xs ys : List Int} (hx : isB xs) (hy : isB ys) (h : strOfBytes xs = strOfBytes ys) : xs = ys := by
  rw [← bytes_str xs hx, h, bytes_str ys hy]
end Go.Proofs.YtkmfjlfejdoehaaGreat

set_option linter.unusedVariables false
set_option linter.unusedSimpArgs false
namespace Go.Proofs.YtkmfjlfejdoehaaGreat
open Go.Eng
abbrev VerT : Ty := .pair (.int .i64) (.pair (.int .i64) (.pair .bool .str))
abbrev StT : Ty := .pair .str (.slice VerT)
abbrev Ver := Int × Int × Bool × List UInt8
abbrev Stk := List UInt8 × List Ver
def pend (me : Int) (v : Ver) : Bool := decide (v.2.1 = 0 ∧ v.1 = me ∧ 0 ≤ me)
end Go.Proofs.YtkmfjlfejdoehaaGreat

set_option linter.unusedVariables false
set_option linter.unusedSimpArgs false
namespace Go.Proofs.YtkmfjlfejdoehaaGreat
open Go.Eng
def lightV (v : Ver) : Bool := decide (v.2.2.2.length ≤ 100)
def light (s : Stk) : Bool := decide (s.1.length ≤ 100) && (decide (s.2.length ≤ 12) && s.2.all lightV)
def sLight : PSpec := ⟨[.d StT], [⟨false, [.d .bool]⟩], fun _ => True, fun x => ((light x.1, ()), ())⟩
theorem fLight : FnOk Tryz.prog 36 := ⟨_, Tryz.func36, by decide, rfl⟩
theorem pLight : PSound Tryz.prog 36 sLight := by
  refine psound (T := tab) (S := (spOf [])) (keep := k36) (by kernel_rfl) tabOk spNil (by kernel_rfl) Tryz.func36 (by kernel_rfl) (by decide) fun xs hg hp => ?_
  obtain ⟨⟨key, xs⟩, ⟨⟩⟩ := xs
  obtain ⟨⟨hk, hl, hx⟩, hg⟩ := hg
  change List UInt8 at key
  change List Ver at xs
  have hl := len63 hl
  clear hp
  show vfun tab _ k36 Tryz.f36 [.agg [.s key, .sl VerT xs]] [] _
  refine Ev.out ?_
  repeat' (first | ((with_reducible refine Ev.mk ?_); conv => whnf) | (with_reducible refine And.intro ?_ ?_) | (intro h))
  all_goals (try simp only [decide_eq_true_eq, decide_eq_false_iff_not, beq_iff_eq, bne_iff_ne, beq_eq_false_iff_ne, bne_eq_false_iff_eq, Int.toNat_natCast, ge_iff_le, gt_iff_lt, Bool.not_eq_true', Bool.not_eq_false', Int.not_lt, Int.not_le, ne_eq] at *)
  all_goals (try dsimp only [Ty.den, Ty.dflt, VerT] at *)
  all_goals (try simp only [eq4, ne4, eq3, ne3, eq2, ne2, Prod.eta, List.length_cons, List.length_nil, List.length_append, Nat.zero_add] at *)
  all_goals (try simp (disch := omega) only [wrap64] at *)
  · refine Leaf.mk (ret1 (?_ : false = light (key, xs)))
    simp only [light]; rw [show decide (key.length ≤ 100) = false by simp; omega]; rfl
  · refine Leaf.mk (ret1 (?_ : false = light (key, xs)))
    simp only [light]; rw [show decide (xs.length ≤ 12) = false by simp; omega]; simp
  · have h0 : light (key, xs) = xs.all lightV := by
      simp only [light]; rw [show decide (xs.length ≤ 12) = true by simp; omega, show decide (key.length ≤ 100) = true by simp; omega]; simp
    refine LoopVC.on (fun i : Nat => [(3, .i .i64 i)]) (fun _ => []) (fun i => i ≤ xs.length ∧ light (key, xs) = (xs.drop i).all lightV) (fun i => xs.length - i) 0 rfl ⟨by omega, by simp [h0]⟩ ?_
    intro i ⟨hi, he⟩
    repeat' (first | ((with_reducible refine Ev.mk ?_); conv => whnf) | (with_reducible refine And.intro ?_ ?_) | (intro h))
    all_goals (try simp only [decide_eq_true_eq, decide_eq_false_iff_not, beq_iff_eq, bne_iff_ne, beq_eq_false_iff_ne, bne_eq_false_iff_eq, Int.toNat_natCast, ge_iff_le, gt_iff_lt, Bool.not_eq_true', Bool.not_eq_false', Int.not_lt, Int.not_le, ne_eq] at *)
    all_goals (try dsimp only [Ty.den, Ty.dflt, VerT] at *)
    all_goals (try simp only [eq4, ne4, eq3, ne3, eq2, ne2, Prod.eta, List.length_cons, List.length_nil, List.length_append, Nat.zero_add] at *)
    all_goals (try simp (disch := omega) only [wrap64] at *)
    all_goals try first | exact leafDraw (by kernel_rfl) | exact Leaf.mk trivial | (refine Leaf.mk ?_; omega) | (refine Leaf.mk ?_; unfold maxLen; omega)
    all_goals first
      | (rw [all_end (by omega)] at he; exact Leaf.mk (ret1 he.symm))
      | (rw [all_hit (0, 0, false, []) (by omega) (by simp only [lightV, decide_eq_false_iff_not]; omega)] at he; exact Leaf.mk (ret1 he.symm))
      | (rw [all_skip (0, 0, false, []) (by omega) (by simp only [lightV, decide_eq_true_eq]; omega)] at he; exact Leaf.mk ⟨i + 1, rfl, ⟨by omega, he⟩, by omega⟩)
def sIndexFunc : PSpec := ⟨[.d (.slice VerT), .lam VerT .bool], [⟨false, [.d (.int .i64)]⟩], fun _ => True, fun x => ((idxF x.2.1 x.1 0, ()), ())⟩
theorem fIndexFunc : FnOk Tryz.prog 198 := ⟨_, Tryz.func198, by decide, rfl⟩
theorem pIndexFunc : PSound Tryz.prog 198 sIndexFunc := by
  refine psound (T := tab) (S := (spOf [])) (keep := k198) (by kernel_rfl) tabOk spNil (by kernel_rfl) Tryz.func198 (by kernel_rfl) (by decide) fun xs hg hp => ?_
  obtain ⟨xs, p, ⟨⟩⟩ := xs
  obtain ⟨⟨hl, -⟩, -⟩ := hg
  change List Ver at xs
  change Ver → Bool at p
  have hl := len63 hl
  clear hp
  show vfun tab _ k198 Tryz.f198 [.sl VerT xs, .lam VerT .bool p] [] _
  refine Ev.out ?_
  repeat' (first | ((with_reducible refine Ev.mk ?_); conv => whnf) | (with_reducible refine And.intro ?_ ?_) | (intro h))
  refine LoopVC.on (fun i : Nat => [(8, .i .i64 i)]) (fun _ => []) (fun i => i ≤ xs.length ∧ idxF p xs 0 = idxF p (xs.drop i) i) (fun i => xs.length - i) 0 rfl ⟨by omega, by simp⟩ ?_
  intro i ⟨hi, he⟩
  repeat' (first | ((with_reducible refine Ev.mk ?_); conv => whnf) | (with_reducible refine And.intro ?_ ?_) | (intro h))
  all_goals (try simp only [decide_eq_true_eq, decide_eq_false_iff_not, beq_iff_eq, bne_iff_ne, beq_eq_false_iff_ne, bne_eq_false_iff_eq, Int.toNat_natCast, ge_iff_le, gt_iff_lt, Bool.not_eq_true', Bool.not_eq_false', Int.not_lt, Int.not_le, ne_eq] at *)
  all_goals (try dsimp only [Ty.den, Ty.dflt, VerT] at *)
  all_goals (try simp only [eq4, ne4, eq3, ne3, eq2, ne2, Prod.eta, List.length_cons, List.length_nil, List.length_append, Nat.zero_add] at *)
  all_goals (try simp (disch := omega) only [wrap64] at *)
  all_goals try first | exact leafDraw (by kernel_rfl) | exact Leaf.mk trivial | (refine Leaf.mk ?_; omega) | (refine Leaf.mk ?_; unfold maxLen; omega)
  all_goals first
    | (rw [drop_end (by omega)] at he; exact Leaf.mk (ret1 he.symm))
    | (rw [drop_at (0, 0, false, []) (by omega), idxF, if_pos (by assumption)] at he; exact Leaf.mk (ret1 he.symm))
    | (rw [drop_at (0, 0, false, []) (by omega), idxF, if_neg (by simp_all)] at he; exact Leaf.mk ⟨i + 1, rfl, ⟨by omega, he⟩, by omega⟩)
def roomP (me : Int) (v : Ver) : Bool := (v.2.1 == 0) && (v.1 == me)
def room (s : Stk) (me : Int) : Bool := decide (s.2.length < 8) || s.2.any (roomP me)
def okTs (at' : Int) (v : Ver) : Bool := decide (1 ≤ v.2.1 ∧ v.2.1 ≤ at')
end Go.Proofs.YtkmfjlfejdoehaaGreat

set_option linter.unusedVariables false
set_option linter.unusedSimpArgs false
namespace Go.Proofs.YtkmfjlfejdoehaaGreat
open Go.Eng
abbrev ver0 : Ver := (0, 0, false, [])
def inB (n : Int) : Bool := decide (0 ≤ n ∧ n ≤ 1099511627776)
def sIn : PSpec := ⟨[.d (.int .i64)], [⟨false, [.d .bool]⟩], fun _ => True, fun x => ((inB x.1, ()), ())⟩
theorem fIn : FnOk Tryz.prog 197 := ⟨_, Tryz.func197, by decide, rfl⟩
theorem pIn : PSound Tryz.prog 197 sIn := by
  refine psound (T := tab) (S := (spOf [])) (keep := k197) (by kernel_rfl) tabOk spNil (by kernel_rfl) Tryz.func197 (by kernel_rfl) (by decide) fun xs hg hp => ?_
  obtain ⟨n, ⟨⟩⟩ := xs
  change Int at n
  show vfun tab _ k197 Tryz.f197 [.i .i64 n] [] _
  refine Ev.out ?_
  repeat' (first | ((with_reducible refine Ev.mk ?_); conv => whnf) | (with_reducible refine And.intro ?_ ?_) | (intro h))
  all_goals (try simp only [decide_eq_true_eq, decide_eq_false_iff_not, beq_iff_eq, bne_iff_ne, beq_eq_false_iff_ne, bne_eq_false_iff_eq, Int.toNat_natCast, ge_iff_le, gt_iff_lt, Bool.not_eq_true', Bool.not_eq_false', Int.not_lt, Int.not_le, ne_eq] at *)
  all_goals (try dsimp only [Ty.den, Ty.dflt, VerT] at *)
  all_goals (try simp only [eq4, ne4, eq3, ne3, eq2, ne2, Prod.eta, List.length_cons, List.length_nil, List.length_append, Nat.zero_add] at *)
  all_goals (try simp (disch := omega) only [wrap64] at *)
  all_goals
    refine Leaf.mk (ret1 (show _ = inB n from ?_))
    simp only [inB]
    first
    | (rw [decide_eq_false (p := 0 ≤ n ∧ n ≤ 1099511627776) (by omega)]; done)
    | (congr 1; simp only [eq_iff_iff]; omega)
def verC (v : Ver) : Int := if 24 < v.2.2.2.length then 5 else if v.2.2.1 = true ∧ v.2.2.2 ≠ [] then 4 else if inB v.1 = true ∧ inB v.2.1 = true then 0 else 9
def sVersion : PSpec := ⟨[.d VerT], [⟨false, [.d (.int .i64)]⟩], fun _ => True, fun x => ((verC x.1, ()), ())⟩
theorem fVersion : FnOk Tryz.prog 150 := ⟨_, Tryz.func150, by decide, rfl⟩
theorem pVersion : PSound Tryz.prog 150 sVersion := by
  refine psound (T := tab) (S := (spOf [(197, sIn.spec (lsOf []))])) (keep := k150) (by kernel_rfl) tabOk (spCons (pOk pIn fIn (by decide) lsNil) spNil) (by kernel_rfl) Tryz.func150 (by kernel_rfl) (by decide) fun xs hg hp => ?_
  obtain ⟨⟨txn, ts, gone, val⟩, ⟨⟩⟩ := xs
  obtain ⟨⟨hg1, hg2, -, hl⟩, -⟩ := hg
  change List UInt8 at val
  change Int at txn
  change Int at ts
  change Bool at gone
  change val.length ≤ maxLen at hl
  have hl := len63 hl
  show vfun tab _ k150 Tryz.f150 [.agg [.i .i64 txn, .i .i64 ts, .b gone, .s val]] [] _
  refine Ev.out ?_
  repeat' (first | ((with_reducible refine Ev.mk ?_); conv => whnf) | (with_reducible refine And.intro ?_ ?_) | (intro h))
  all_goals (try simp only [decide_eq_true_eq, decide_eq_false_iff_not, beq_iff_eq, bne_iff_ne, beq_eq_false_iff_ne, bne_eq_false_iff_eq, Int.toNat_natCast, ge_iff_le, gt_iff_lt, Bool.not_eq_true', Bool.not_eq_false', Int.not_lt, Int.not_le, ne_eq] at *)
  all_goals (try dsimp only [Ty.den, Ty.dflt, VerT, sIn] at *)
  all_goals (try simp only [eq4, ne4, eq3, ne3, eq2, ne2, Prod.eta, List.length_cons, List.length_nil, List.length_append, Nat.zero_add] at *)
  all_goals (try simp (disch := omega) only [wrap64] at *)
  all_goals try first | exact leafDraw (by kernel_rfl) | exact Leaf.mk trivial | (refine Leaf.mk ?_; omega) | (refine Leaf.mk ?_; unfold maxLen; omega)
  all_goals
    refine Leaf.mk (ret1 (show (_ : Int) = verC (txn, ts, gone, val) from ?_))
    simp only [verC]
    first
    | (rw [if_pos (show 24 < val.length by omega)]; done)
    | (rw [if_neg (show ¬ 24 < val.length by omega)]; simp_all)
def ordered1 (v : Ver) : Bool := v.2.1 == 0
def lOrdered1 : LSpec := ⟨VerT, .bool, [], fun v _ => ordered1 v⟩
theorem fOrdered1 : FnOk Tryz.prog 199 := ⟨_, Tryz.func199, by decide, rfl⟩
theorem pOrdered1 : PSound Tryz.prog 199 lOrdered1.p := by
  refine psound (T := tab) (S := (spOf [])) (keep := k199) (by kernel_rfl) tabOk spNil (by kernel_rfl) Tryz.func199 (by kernel_rfl) (by decide) fun xs hg hp => ?_
  obtain ⟨⟨txn, ts, gone, val⟩, ⟨⟩⟩ := xs
  show vfun tab _ k199 Tryz.f199 [.agg [.i .i64 txn, .i .i64 ts, .b gone, .s val]] [] _
  refine Ev.out ?_
  repeat' (first | ((with_reducible refine Ev.mk ?_); conv => whnf) | (with_reducible refine And.intro ?_ ?_) | (intro h))
  exact Leaf.mk rfl
def firstZ (xs : List Ver) : Nat := if idxF ordered1 xs 0 < 0 then xs.length else (idxF ordered1 xs 0).toNat
def OrdA (xs : List Ver) (n : Nat) : Prop := ∀ j, j < n → 1 ≤ j → (xs.getD (j - 1) ver0).2.1 ≤ (xs.getD j ver0).2.1
def OrdB : List Ver → List Int → Prop
  | [], _ => True
  | v :: r, l => v.2.1 = 0 ∧ v.1 ∉ l ∧ OrdB r (v.1 :: l)
instance : ∀ (xs : List Ver) (l : List Int), Decidable (OrdB xs l)
  | [], _ => .isTrue trivial
  | v :: r, l => by
    have := instDecidableOrdB r (v.1 :: l)
    unfold OrdB
    exact inferInstance
instance (xs : List Ver) (n : Nat) : Decidable (OrdA xs n) := by unfold OrdA; exact inferInstance
def ordered (xs : List Ver) : Bool := decide (OrdA xs (firstZ xs) ∧ OrdB (xs.drop (firstZ xs)) [])
def sOrdered : PSpec := ⟨[.d (.slice VerT)], [⟨false, [.d .bool]⟩], fun _ => True, fun x => ((ordered x.1, ()), ())⟩
theorem OrdB_at {xs : List Ver} {m : Nat} {l : List Int} (h : m < xs.length) : OrdB (xs.drop m) l ↔ (xs.getD m ver0).2.1 = 0 ∧ (xs.getD m ver0).1 ∉ l ∧ OrdB (xs.drop (m + 1)) ((xs.getD m ver0).1 :: l) := by
  rw [drop_at ver0 h, OrdB]
theorem OrdA_le {xs : List Ver} {n i : Nat} (h : OrdA xs i) (hn : n ≤ i) : OrdA xs n := fun j hj h1 => h j (by omega) h1
theorem fOrdered : FnOk Tryz.prog 151 := ⟨_, Tryz.func151, by decide, rfl⟩
theorem pOrdered : PSound Tryz.prog 151 sOrdered := by
  refine psound (T := tab) (S := (spOf [(198, sIndexFunc.spec (lsOf [(199, lOrdered1)]))])) (keep := k151) (by kernel_rfl) tabOk (spCons (pOk pIndexFunc fIndexFunc (by decide) ((lsCons ⟨pOrdered1, fOrdered1⟩ lsNil))) spNil) (by kernel_rfl) Tryz.func151 (by kernel_rfl) (by decide) fun xs hg hp => ?_
  obtain ⟨xs, ⟨⟩⟩ := xs
  obtain ⟨⟨hl, hx⟩, -⟩ := hg
  change List Ver at xs
  change xs.length ≤ _ at hl
  have hl := len63 hl
  clear hp
  have hz := idxF_pos ordered1 xs 0
  show vfun tab _ k151 Tryz.f151 [.sl VerT xs] [] _
  refine Ev.out ?_
  repeat' (first | ((with_reducible refine Ev.mk ?_); conv => whnf) | (with_reducible refine And.intro ?_ ?_) | (intro h))
  all_goals (try simp only [decide_eq_true_eq, decide_eq_false_iff_not, beq_iff_eq, bne_iff_ne, beq_eq_false_iff_ne, bne_eq_false_iff_eq, Int.toNat_natCast, ge_iff_le, gt_iff_lt, Bool.not_eq_true', Bool.not_eq_false', Int.not_lt, Int.not_le, ne_eq] at *)
  all_goals (try dsimp only [Ty.den, Ty.dflt, VerT, sIndexFunc] at *)
  all_goals (try simp only [eq4, ne4, eq3, ne3, eq2, ne2, Prod.eta, List.length_cons, List.length_nil, List.length_append, Nat.zero_add] at *)
  all_goals (try simp (disch := omega) only [wrap64] at *)
  all_goals try first | exact leafDraw (by kernel_rfl) | exact Leaf.mk trivial | (refine Leaf.mk ?_; omega) | (refine Leaf.mk ?_; unfold maxLen; omega)
  all_goals
    obtain ⟨n, hn⟩ : ∃ n : Nat, firstZ xs = n := ⟨_, rfl⟩
    have hle : n ≤ xs.length := by rw [← hn]; unfold firstZ; split <;> omega
  · have h1 : xs.length = n := by rw [← hn]; exact (if_pos h).symm
    refine LoopVC.on (fun i : Nat => [(3, .i .i64 n), (4, .i .i64 i)]) (fun _ => []) (fun i => 1 ≤ i ∧ OrdA xs i) (fun i => n - i) 1 (by rw [← h1]; rfl) ⟨by omega, fun j hj hj1 => by omega⟩ ?_
    intro i ⟨hi, he⟩
    repeat' (first | ((with_reducible refine Ev.mk ?_); conv => whnf) | (with_reducible refine And.intro ?_ ?_) | (intro h))
    all_goals (try simp only [decide_eq_true_eq, decide_eq_false_iff_not, beq_iff_eq, bne_iff_ne, beq_eq_false_iff_ne, bne_eq_false_iff_eq, Int.toNat_natCast, ge_iff_le, gt_iff_lt, Bool.not_eq_true', Bool.not_eq_false', Int.not_lt, Int.not_le, ne_eq] at *)
    all_goals (try dsimp only [Ty.den, Ty.dflt, VerT] at *)
    all_goals (try simp only [eq4, ne4, eq3, ne3, eq2, ne2, Prod.eta, List.length_cons, List.length_nil, List.length_append, Nat.zero_add] at *)
    all_goals (try simp (disch := omega) only [wrap64] at *)
    all_goals try first | exact leafDraw (by kernel_rfl) | exact Leaf.mk trivial | (refine Leaf.mk ?_; omega) | (refine Leaf.mk ?_; unfold maxLen; omega)
    all_goals first
      | (refine Leaf.mk (ret1 (show false = ordered xs from ?_))
         rw [eq_comm]; refine decide_eq_false fun hc => ?_
         have := hc.1 i (by omega) (by omega)
         rw [show ((i : Int) - 1).toNat = i - 1 by omega] at h
         dsimp only [ver0] at this
         omega)
      | (refine Leaf.mk ⟨i + 1, rfl, ⟨by omega, fun j hj h1 => ?_⟩, by omega⟩
         by_cases hji : j = i
         · subst hji
           rw [show ((j : Int) - 1).toNat = j - 1 by omega] at h
           exact h
         · exact he j (by omega) h1)
      | skip
    have he := OrdA_le he (show n ≤ i by omega)
    rw [List.take_length]
    obtain ⟨D, hD⟩ : ∃ D, xs.drop n = D := ⟨_, rfl⟩
    rw [hD]
    have hDl : D.length ≤ 9223372036854775807 := by rw [← hD]; simp; omega
    refine LoopVC.on (fun a : Nat × List (Int × Bool) => [(36, .i .i64 a.1)]) (fun a => [(0, .map (.int .i64) .bool a.2)]) (fun a => a.1 ≤ D.length ∧ ∃ s : List Int, (∀ c, mapGet (.int .i64) c false a.2 = true ↔ c ∈ s) ∧ (ordered xs = true ↔ OrdB (D.drop a.1) s)) (fun a => D.length - a.1) (0, []) rfl ⟨by simp, [], fun c => by simp [mapGet], ?_⟩ ?_
    · simp only [ordered, decide_eq_true_eq, hn, hD, he, true_and, List.drop_zero]
    intro ⟨m, l⟩ ⟨hm, s, hs, ho⟩
    dsimp only at hm hs ho ⊢
    repeat' (first | ((with_reducible refine Ev.mk ?_); conv => whnf) | (with_reducible refine And.intro ?_ ?_) | (intro h))
    all_goals (try simp only [decide_eq_true_eq, decide_eq_false_iff_not, beq_iff_eq, bne_iff_ne, beq_eq_false_iff_ne, bne_eq_false_iff_eq, Int.toNat_natCast, ge_iff_le, gt_iff_lt, Bool.not_eq_true', Bool.not_eq_false', Int.not_lt, Int.not_le, ne_eq] at *)
    all_goals (try dsimp only [Ty.den, Ty.dflt, VerT] at *)
    all_goals (try simp only [eq4, ne4, eq3, ne3, eq2, ne2, Prod.eta, List.length_cons, List.length_nil, List.length_append, Nat.zero_add] at *)
    all_goals (try simp (disch := omega) only [wrap64] at *)
    all_goals try first | exact leafDraw (by kernel_rfl) | exact Leaf.mk trivial | (refine Leaf.mk ?_; omega) | (refine Leaf.mk ?_; unfold maxLen; omega)
    change m ≤ D.length at hm
    all_goals first
      | (rw [drop_end (show D.length ≤ m by omega)] at ho
         exact Leaf.mk (ret1 (show true = ordered xs from (ho.2 trivial).symm)))
      | (rw [OrdB_at (by omega)] at ho
         refine Leaf.mk (ret1 (show false = ordered xs from ?_))
         rw [eq_comm, ← Bool.not_eq_true, ho]
         intro hc
         first | exact h hc.1 | exact hc.2.1 ((hs _).1 (by assumption)))
      | (rw [OrdB_at (by omega)] at ho
         refine Leaf.mk ⟨(m + 1, _), rfl, ⟨by show m + 1 ≤ _; omega, (D.getD m ver0).1 :: s, fun c => ?_, ?_⟩, by show _ - (m + 1) < _; omega⟩
         · show mapGet (.int .i64) c false (mapPut (.int .i64) (D.getD m ver0).1 true l) = true ↔ _
           rw [mapGet_put keyEq_int, List.mem_cons]
           split
           · rename_i hk; simp [(keyEq_int _ _).1 hk]
           · rename_i hk
             rw [keyEq_int] at hk
             rw [hs]
             exact ⟨Or.inr, fun hh => hh.elim (fun e => absurd e hk) id⟩
         · rw [ho]
           refine ⟨fun hc => hc.2.2, fun hc => ⟨h, fun hin => ?_, hc⟩⟩
           have hq := (hs _).2 hin
           exact Bool.noConfusion (hq.symm.trans ‹mapGet (.int .i64) _ false l = false›))
  · have h1 : idxF ordered1 xs 0 = n := by rw [← hn]; show _ = ((if idxF ordered1 xs 0 < 0 then xs.length else (idxF ordered1 xs 0).toNat : Nat) : Int); rw [if_neg (show ¬ idxF ordered1 xs 0 < 0 from Int.not_lt.2 h)]; have h : 0 ≤ idxF ordered1 xs 0 := h; omega
    refine LoopVC.on (fun i : Nat => [(3, .i .i64 n), (4, .i .i64 i)]) (fun _ => []) (fun i => 1 ≤ i ∧ OrdA xs i) (fun i => n - i) 1 (by rw [← h1]; rfl) ⟨by omega, fun j hj hj1 => by omega⟩ ?_
    intro i ⟨hi, he⟩
    repeat' (first | ((with_reducible refine Ev.mk ?_); conv => whnf) | (with_reducible refine And.intro ?_ ?_) | (intro h))
    all_goals (try simp only [decide_eq_true_eq, decide_eq_false_iff_not, beq_iff_eq, bne_iff_ne, beq_eq_false_iff_ne, bne_eq_false_iff_eq, Int.toNat_natCast, ge_iff_le, gt_iff_lt, Bool.not_eq_true', Bool.not_eq_false', Int.not_lt, Int.not_le, ne_eq] at *)
    all_goals (try dsimp only [Ty.den, Ty.dflt, VerT] at *)
    all_goals (try simp only [eq4, ne4, eq3, ne3, eq2, ne2, Prod.eta, List.length_cons, List.length_nil, List.length_append, Nat.zero_add] at *)
    all_goals (try simp (disch := omega) only [wrap64] at *)
    all_goals try first | exact leafDraw (by kernel_rfl) | exact Leaf.mk trivial | (refine Leaf.mk ?_; omega) | (refine Leaf.mk ?_; unfold maxLen; omega)
    all_goals first
      | (refine Leaf.mk (ret1 (show false = ordered xs from ?_))
         rw [eq_comm]; refine decide_eq_false fun hc => ?_
         have := hc.1 i (by omega) (by omega)
         rw [show ((i : Int) - 1).toNat = i - 1 by omega] at h
         dsimp only [ver0] at this
         omega)
      | (refine Leaf.mk ⟨i + 1, rfl, ⟨by omega, fun j hj h1 => ?_⟩, by omega⟩
         by_cases hji : j = i
         · subst hji
           rw [show ((j : Int) - 1).toNat = j - 1 by omega] at h
           exact h
         · exact he j (by omega) h1)
      | skip
    have he := OrdA_le he (show n ≤ i by omega)
    rw [List.take_length]
    obtain ⟨D, hD⟩ : ∃ D, xs.drop n = D := ⟨_, rfl⟩
    rw [hD]
    have hDl : D.length ≤ 9223372036854775807 := by rw [← hD]; simp; omega
    refine LoopVC.on (fun a : Nat × List (Int × Bool) => [(36, .i .i64 a.1)]) (fun a => [(0, .map (.int .i64) .bool a.2)]) (fun a => a.1 ≤ D.length ∧ ∃ s : List Int, (∀ c, mapGet (.int .i64) c false a.2 = true ↔ c ∈ s) ∧ (ordered xs = true ↔ OrdB (D.drop a.1) s)) (fun a => D.length - a.1) (0, []) rfl ⟨by simp, [], fun c => by simp [mapGet], ?_⟩ ?_
    · simp only [ordered, decide_eq_true_eq, hn, hD, he, true_and, List.drop_zero]
    intro ⟨m, l⟩ ⟨hm, s, hs, ho⟩
    dsimp only at hm hs ho ⊢
    repeat' (first | ((with_reducible refine Ev.mk ?_); conv => whnf) | (with_reducible refine And.intro ?_ ?_) | (intro h))
    all_goals (try simp only [decide_eq_true_eq, decide_eq_false_iff_not, beq_iff_eq, bne_iff_ne, beq_eq_false_iff_ne, bne_eq_false_iff_eq, Int.toNat_natCast, ge_iff_le, gt_iff_lt, Bool.not_eq_true', Bool.not_eq_false', Int.not_lt, Int.not_le, ne_eq] at *)
    all_goals (try dsimp only [Ty.den, Ty.dflt, VerT] at *)
    all_goals (try simp only [eq4, ne4, eq3, ne3, eq2, ne2, Prod.eta, List.length_cons, List.length_nil, List.length_append, Nat.zero_add] at *)
    all_goals (try simp (disch := omega) only [wrap64] at *)
    all_goals try first | exact leafDraw (by kernel_rfl) | exact Leaf.mk trivial | (refine Leaf.mk ?_; omega) | (refine Leaf.mk ?_; unfold maxLen; omega)
    change m ≤ D.length at hm
    all_goals first
      | (rw [drop_end (show D.length ≤ m by omega)] at ho
         exact Leaf.mk (ret1 (show true = ordered xs from (ho.2 trivial).symm)))
      | (rw [OrdB_at (by omega)] at ho
         refine Leaf.mk (ret1 (show false = ordered xs from ?_))
         rw [eq_comm, ← Bool.not_eq_true, ho]
         intro hc
         first | exact h hc.1 | exact hc.2.1 ((hs _).1 (by assumption)))
      | (rw [OrdB_at (by omega)] at ho
         refine Leaf.mk ⟨(m + 1, _), rfl, ⟨by show m + 1 ≤ _; omega, (D.getD m ver0).1 :: s, fun c => ?_, ?_⟩, by show _ - (m + 1) < _; omega⟩
         · show mapGet (.int .i64) c false (mapPut (.int .i64) (D.getD m ver0).1 true l) = true ↔ _
           rw [mapGet_put keyEq_int, List.mem_cons]
           split
           · rename_i hk; simp [(keyEq_int _ _).1 hk]
           · rename_i hk
             rw [keyEq_int] at hk
             rw [hs]
             exact ⟨Or.inr, fun hh => hh.elim (fun e => absurd e hk) id⟩
         · rw [ho]
           refine ⟨fun hc => hc.2.2, fun hc => ⟨h, fun hin => ?_, hc⟩⟩
           have hq := (hs _).2 hin
           exact Bool.noConfusion (hq.symm.trans ‹mapGet (.int .i64) _ false l = false›))
end Go.Proofs.YtkmfjlfejdoehaaGreat

set_option linter.unusedVariables false
set_option linter.unusedSimpArgs false
namespace Go.Proofs.YtkmfjlfejdoehaaGreat
open Go.Eng
def firstBad : List Ver → Int
  | [] => 0
  | v :: r => if verC v = 0 then firstBad r else verC v
def check (s : Stk) : Int := if 16 < s.1.length then 5 else if 8 < s.2.length then 7 else if firstBad s.2 = 0 then (if ordered s.2 = true then 0 else 12) else firstBad s.2
def sCheck : PSpec := ⟨[.d StT], [⟨false, [.d (.int .i64)]⟩], fun _ => True, fun x => ((check x.1, ()), ())⟩
theorem firstBad_at {xs : List Ver} {i : Nat} (h : i < xs.length) : firstBad (xs.drop i) = if verC (xs.getD i ver0) = 0 then firstBad (xs.drop (i + 1)) else verC (xs.getD i ver0) := by
  rw [drop_at ver0 h, firstBad]
theorem fCheck : FnOk Tryz.prog 84 := ⟨_, Tryz.func84, by decide, rfl⟩
theorem pCheck : PSound Tryz.prog 84 sCheck := by
  refine psound (T := tab) (S := (spOf [(150, sVersion.spec (lsOf [])), (151, sOrdered.spec (lsOf []))])) (keep := k84) (by kernel_rfl) tabOk (spCons (pOk pVersion fVersion (by decide) lsNil) (spCons (pOk pOrdered fOrdered (by decide) lsNil) spNil)) (by kernel_rfl) Tryz.func84 (by kernel_rfl) (by decide) fun xs hg hp => ?_
  obtain ⟨⟨key, xs⟩, ⟨⟩⟩ := xs
  obtain ⟨⟨hk, hl, hx⟩, -⟩ := hg
  change List UInt8 at key
  change List Ver at xs
  change xs.length ≤ _ at hl
  have hl := len63 hl
  clear hp
  show vfun tab _ k84 Tryz.f84 [.agg [.s key, .sl VerT xs]] [] _
  refine Ev.out ?_
  repeat' (first | ((with_reducible refine Ev.mk ?_); conv => whnf) | (with_reducible refine And.intro ?_ ?_) | (intro h))
  all_goals (try simp only [decide_eq_true_eq, decide_eq_false_iff_not, beq_iff_eq, bne_iff_ne, beq_eq_false_iff_ne, bne_eq_false_iff_eq, Int.toNat_natCast, ge_iff_le, gt_iff_lt, Bool.not_eq_true', Bool.not_eq_false', Int.not_lt, Int.not_le, ne_eq] at *)
  all_goals (try dsimp only [Ty.den, Ty.dflt, VerT, sVersion, sOrdered] at *)
  all_goals (try simp only [eq4, ne4, eq3, ne3, eq2, ne2, Prod.eta, List.length_cons, List.length_nil, List.length_append, Nat.zero_add] at *)
  all_goals (try simp (disch := omega) only [wrap64] at *)
  all_goals try first | exact leafDraw (by kernel_rfl) | exact Leaf.mk trivial | (refine Leaf.mk ?_; omega) | (refine Leaf.mk ?_; unfold maxLen; omega)
  · refine Leaf.mk (ret1 (show (5 : Int) = check (key, xs) from ?_))
    rw [check, if_pos (show 16 < key.length by omega)]
  · refine Leaf.mk (ret1 (show (7 : Int) = check (key, xs) from ?_))
    rw [check, if_neg (show ¬ 16 < key.length by omega), if_pos (show 8 < xs.length by omega)]
  have hC : check (key, xs) = if firstBad xs = 0 then (if ordered xs = true then 0 else 12) else firstBad xs := by
    rw [check, if_neg (show ¬ 16 < key.length by omega), if_neg (show ¬ 8 < xs.length by omega)]
  refine LoopVC.on (fun i : Nat => [(19, .i .i64 i)]) (fun _ => []) (fun i => i ≤ xs.length ∧ firstBad xs = firstBad (xs.drop i)) (fun i => xs.length - i) 0 rfl ⟨by omega, rfl⟩ ?_
  intro i ⟨hi, he⟩
  repeat' (first | ((with_reducible refine Ev.mk ?_); conv => whnf) | (with_reducible refine And.intro ?_ ?_) | (intro h))
  all_goals (try simp only [decide_eq_true_eq, decide_eq_false_iff_not, beq_iff_eq, bne_iff_ne, beq_eq_false_iff_ne, bne_eq_false_iff_eq, Int.toNat_natCast, ge_iff_le, gt_iff_lt, Bool.not_eq_true', Bool.not_eq_false', Int.not_lt, Int.not_le, ne_eq] at *)
  all_goals (try dsimp only [Ty.den, Ty.dflt, VerT, sVersion, sOrdered] at *)
  all_goals (try simp only [eq4, ne4, eq3, ne3, eq2, ne2, Prod.eta, List.length_cons, List.length_nil, List.length_append, Nat.zero_add] at *)
  all_goals (try simp (disch := omega) only [wrap64] at *)
  all_goals try first | exact leafDraw (by kernel_rfl) | exact Leaf.mk trivial | (refine Leaf.mk ?_; omega) | (refine Leaf.mk ?_; unfold maxLen; omega)
  · rw [firstBad_at (by omega), if_neg (show ¬ verC (xs.getD i ver0) = 0 from h)] at he
    refine Leaf.mk (ret1 (show verC (xs.getD i ver0) = check (key, xs) from ?_))
    rw [hC, he, if_neg (show ¬ verC (xs.getD i ver0) = 0 from h)]
  · rw [firstBad_at (by omega), if_pos (show verC (xs.getD i ver0) = 0 from h)] at he
    exact Leaf.mk ⟨i + 1, rfl, ⟨by omega, he⟩, by omega⟩
  · rw [drop_end (by omega)] at he
    refine Leaf.mk (ret1 (show (12 : Int) = check (key, xs) from ?_))
    rw [hC, if_pos (show firstBad xs = 0 from he), if_neg (by rw [h]; simp)]
  · rw [drop_end (by omega)] at he
    refine Leaf.mk (ret1 (show (0 : Int) = check (key, xs) from ?_))
    rw [hC, if_pos (show firstBad xs = 0 from he), if_pos h]
def write (s : Stk) (v : Ver) : Stk :=
  if 0 ≤ idxF (roomP v.1) s.2 0 then (s.1, s.2.set (idxF (roomP v.1) s.2 0).toNat (v.1, 0, v.2.2)) else if s.2.length < 8 then (s.1, s.2 ++ [(v.1, 0, v.2.2)]) else s
end Go.Proofs.YtkmfjlfejdoehaaGreat

set_option linter.unusedVariables false
set_option linter.unusedSimpArgs false
set_option maxRecDepth 8000
namespace Go.Proofs.YtkmfjlfejdoehaaGreat
open Go.Eng
abbrev RdT : Ty := .pair BT (.int .i64)
def sLeft : MSpec := ⟨[.m RP], [⟨false, [.d (.int .i64)]⟩], fun _ => True, fun x => (((List.length (α := Int) x.1.1 : Nat), ()), x.1, ())⟩
theorem fLeft : FnOk Tryz.prog 97 := ⟨_, Tryz.func97, by decide, rfl⟩
theorem pLeft : SpecOk Tryz.prog 97 sLeft.spec := by
  refine mOk (T := tab) (S := (spOf [])) (keep := k97m) tabOk spNil (by kernel_rfl) Tryz.func97 (by kernel_rfl) (by kernel_rfl) (by decide) fun xs hg hp => ?_
  obtain ⟨⟨b, e, ⟨⟩⟩, ⟨⟩⟩ := xs
  change List Int at b
  change Int at e
  show vfunM tab _ k97m Tryz.f97 [.ptr 0 0] [(0, .box [.sl (.int .u8) b, .i .i64 e])] _
  refine Ev.out ?_
  repeat' (first | ((with_reducible refine Ev.mk ?_); conv => whnf) | (with_reducible refine And.intro ?_ ?_) | (intro h))
  all_goals exact Leaf.mk rfl
def sBEqual : PSpec := ⟨[.d BT, .d BT], [⟨false, [.d .bool]⟩], fun _ => True, fun x => ((strOfBytes x.1 == strOfBytes x.2.1, ()), ())⟩
theorem fBEqual : FnOk Tryz.prog 99 := ⟨_, Tryz.func99, by decide, rfl⟩
theorem pBEqual : PSound Tryz.prog 99 sBEqual := by
  refine psound (T := tab) (S := (spOf [])) (keep := k99) (by kernel_rfl) tabOk spNil (by kernel_rfl) Tryz.func99 (by kernel_rfl) (by decide) fun xs hg hp => ?_
  obtain ⟨xs, ys, ⟨⟩⟩ := xs
  show vfun tab _ k99 Tryz.f99 [.sl (.int .u8) xs, .sl (.int .u8) ys] [] _
  refine Ev.out ?_
  repeat' (first | ((with_reducible refine Ev.mk ?_); conv => whnf) | (with_reducible refine And.intro ?_ ?_) | (intro h))
  all_goals exact Leaf.mk rfl
def sFlag : PSpec := ⟨[.d .bool], [⟨false, [.d (.int .u8)]⟩], fun _ => True, fun x => ((if x.1 = true then 1 else 0, ()), ())⟩
theorem fFlag : FnOk Tryz.prog 205 := ⟨_, Tryz.func205, by decide, rfl⟩
theorem pFlag : PSound Tryz.prog 205 sFlag := by
  refine psound (T := tab) (S := (spOf [])) (keep := k205) (by kernel_rfl) tabOk spNil (by kernel_rfl) Tryz.func205 (by kernel_rfl) (by decide) fun xs hg hp => ?_
  obtain ⟨g, ⟨⟩⟩ := xs
  change Bool at g
  show vfun tab _ k205 Tryz.f205 [.b g] [] _
  refine Ev.out ?_
  repeat' (first | ((with_reducible refine Ev.mk ?_); conv => whnf) | (with_reducible refine And.intro ?_ ?_) | (intro h))
  · exact Leaf.mk (ret1 (show (1 : Int) = if g = true then 1 else 0 by rw [if_pos h]))
  · exact Leaf.mk (ret1 (show (0 : Int) = if g = true then 1 else 0 by rw [if_neg (by rw [h]; simp)]))
def sVEqual : PSpec := ⟨[.d (.slice VerT), .d (.slice VerT)], [⟨false, [.d .bool]⟩], fun _ => True, fun x => ((decide ((x.1 : List Ver) = x.2.1), ()), ())⟩
theorem fVEqual : FnOk Tryz.prog 156 := ⟨_, Tryz.func156, by decide, rfl⟩
theorem pVEqual : PSound Tryz.prog 156 sVEqual := by
  refine psound (T := tab) (S := (spOf [])) (keep := k156) (by kernel_rfl) tabOk spNil (by kernel_rfl) Tryz.func156 (by kernel_rfl) (by decide) fun xs hg hp => ?_
  obtain ⟨xs, ys, ⟨⟩⟩ := xs
  obtain ⟨⟨hl, -⟩, ⟨hl2, -⟩, -⟩ := hg
  have hl := len63 hl
  have hl2 := len63 hl2
  change List Ver at xs ys
  change xs.length ≤ _ at hl
  change ys.length ≤ _ at hl2
  clear hp
  show vfun tab _ k156 Tryz.f156 [.sl VerT xs, .sl VerT ys] [] _
  refine Ev.out ?_
  repeat' (first | ((with_reducible refine Ev.mk ?_); conv => whnf) | (with_reducible refine And.intro ?_ ?_) | (intro h))
  all_goals (try simp only [decide_eq_true_eq, decide_eq_false_iff_not, beq_iff_eq, bne_iff_ne, beq_eq_false_iff_ne, bne_eq_false_iff_eq, Int.toNat_natCast, ge_iff_le, gt_iff_lt, Bool.not_eq_true', Bool.not_eq_false', Int.not_lt, Int.not_le, ne_eq] at *)
  all_goals (try dsimp only [Ty.den, Ty.dflt, VerT] at *)
  all_goals (try simp only [eq4, ne4, eq3, ne3, eq2, ne2, Prod.eta, List.length_cons, List.length_nil, List.length_append, Nat.zero_add] at *)
  all_goals (try simp (disch := omega) only [wrap64] at *)
  · refine Leaf.mk (ret1 (show false = decide (xs = ys) from ?_))
    rw [eq_comm, decide_eq_false_iff_not]; intro hc; subst hc; omega
  refine LoopVC.on (fun i : Nat => [(13, .i .i64 i)]) (fun _ => []) (fun i => i ≤ xs.length ∧ xs.take i = ys.take i) (fun i => xs.length - i) 0 rfl ⟨by omega, by simp⟩ ?_
  intro i ⟨hi, he⟩
  repeat' (first | ((with_reducible refine Ev.mk ?_); conv => whnf) | (with_reducible refine And.intro ?_ ?_) | (intro h))
  all_goals (try simp only [decide_eq_true_eq, decide_eq_false_iff_not, beq_iff_eq, bne_iff_ne, beq_eq_false_iff_ne, bne_eq_false_iff_eq, Int.toNat_natCast, ge_iff_le, gt_iff_lt, Bool.not_eq_true', Bool.not_eq_false', Int.not_lt, Int.not_le, ne_eq] at *)
  all_goals (try dsimp only [Ty.den, Ty.dflt, VerT] at *)
  all_goals (try simp only [eq4, ne4, eq3, ne3, eq2, ne2, Prod.eta, List.length_cons, List.length_nil, List.length_append, Nat.zero_add] at *)
  all_goals (try simp (disch := omega) only [wrap64] at *)
  all_goals try first | exact leafDraw (by kernel_rfl) | exact Leaf.mk trivial | (refine Leaf.mk ?_; omega) | (refine Leaf.mk ?_; unfold maxLen; omega)
  all_goals first
    | exact Leaf.mk (ret1 (show false = decide (xs = ys) by rw [eq_comm, decide_eq_false_iff_not]; exact same_not ver0 h))
    | exact Leaf.mk ⟨i + 1, rfl, ⟨by omega, same_step ver0 (by omega) he (by omega) h⟩, by omega⟩
    | exact Leaf.mk (ret1 (show true = decide (xs = ys) by rw [eq_comm, decide_eq_true_eq]; exact same_end (by omega) he (by omega)))
def sameS (a b : Stk) : Bool := decide (a = b)
def sSSame : PSpec := ⟨[.d StT, .d StT], [⟨false, [.d .bool]⟩], fun _ => True, fun x => ((sameS x.1 x.2.1, ()), ())⟩
theorem fSSame : FnOk Tryz.prog 91 := ⟨_, Tryz.func91, by decide, rfl⟩
theorem pSSame : PSound Tryz.prog 91 sSSame := by
  refine psound (T := tab) (S := (spOf [(156, sVEqual.spec (lsOf []))])) (keep := k91) (by kernel_rfl) tabOk (spCons (pOk pVEqual fVEqual (by decide) lsNil) spNil) (by kernel_rfl) Tryz.func91 (by kernel_rfl) (by decide) fun xs hg hp => ?_
  obtain ⟨⟨k, xs⟩, ⟨k2, ys⟩, ⟨⟩⟩ := xs
  change List UInt8 at k k2
  change List Ver at xs ys
  show vfun tab _ k91 Tryz.f91 [.agg [.s k, .sl VerT xs], .agg [.s k2, .sl VerT ys]] [] _
  refine Ev.out ?_
  repeat' (first | ((with_reducible refine Ev.mk ?_); conv => whnf) | (with_reducible refine And.intro ?_ ?_) | (intro h))
  all_goals (try simp only [decide_eq_true_eq, decide_eq_false_iff_not, beq_iff_eq, bne_iff_ne, beq_eq_false_iff_ne, bne_eq_false_iff_eq, Int.toNat_natCast, ge_iff_le, gt_iff_lt, Bool.not_eq_true', Bool.not_eq_false', Int.not_lt, Int.not_le, ne_eq] at *)
  all_goals (try dsimp only [Ty.den, Ty.dflt, VerT, sVEqual] at *)
  all_goals (try simp only [eq4, ne4, eq3, ne3, eq2, ne2, Prod.eta, List.length_cons, List.length_nil, List.length_append, Nat.zero_add] at *)
  all_goals (try simp (disch := omega) only [wrap64] at *)
  all_goals try first | exact leafDraw (by kernel_rfl) | exact Leaf.mk trivial | (refine Leaf.mk ?_; omega) | (refine Leaf.mk ?_; unfold maxLen; omega)
  all_goals first
    | exact Leaf.mk (ret1 (show decide (xs = ys) = decide ((k, xs) = (k2, ys)) by rw [h]; simp))
    | exact Leaf.mk (ret1 (show false = decide ((k, xs) = (k2, ys)) by rw [eq_comm, decide_eq_false_iff_not]; intro hc; exact h (congrArg Prod.fst hc)))
def sSSameR : PSpec := sSSame
theorem fSSameR : FnOk Tryz.prog 21 := ⟨_, Tryz.func21, by decide, rfl⟩
theorem pSSameR : PSound Tryz.prog 21 sSSameR := by
  refine psound (T := tab) (S := (spOf [])) (keep := k21) (by kernel_rfl) tabOk spNil (by kernel_rfl) Tryz.func21 (by kernel_rfl) (by decide) fun xs hg hp => ?_
  obtain ⟨⟨k, xs⟩, ⟨k2, ys⟩, ⟨⟩⟩ := xs
  obtain ⟨⟨-, hl, -⟩, ⟨-, hl2, -⟩, -⟩ := hg
  have hl := len63 hl
  have hl2 := len63 hl2
  change List UInt8 at k k2
  change List Ver at xs ys
  change xs.length ≤ _ at hl
  change ys.length ≤ _ at hl2
  clear hp
  show vfun tab _ k21 Tryz.f21 [.agg [.s k, .sl VerT xs], .agg [.s k2, .sl VerT ys]] [] _
  refine Ev.out ?_
  repeat' (first | ((with_reducible refine Ev.mk ?_); conv => whnf) | (with_reducible refine And.intro ?_ ?_) | (intro h))
  all_goals (try simp only [decide_eq_true_eq, decide_eq_false_iff_not, beq_iff_eq, bne_iff_ne, beq_eq_false_iff_ne, bne_eq_false_iff_eq, Int.toNat_natCast, ge_iff_le, gt_iff_lt, Bool.not_eq_true', Bool.not_eq_false', Int.not_lt, Int.not_le, ne_eq] at *)
  all_goals (try dsimp only [Ty.den, Ty.dflt, VerT] at *)
  all_goals (try simp only [eq4, ne4, eq3, ne3, eq2, ne2, Prod.eta, List.length_cons, List.length_nil, List.length_append, Nat.zero_add] at *)
  all_goals (try simp (disch := omega) only [wrap64] at *)
  all_goals try first | exact leafDraw (by kernel_rfl) | exact Leaf.mk trivial | (refine Leaf.mk ?_; omega) | (refine Leaf.mk ?_; unfold maxLen; omega)
  all_goals try first
    | exact Leaf.mk (ret1 (show false = decide ((k, xs) = (k2, ys)) by rw [eq_comm, decide_eq_false_iff_not]; intro hc; exact h (congrArg Prod.fst hc)))
    | exact Leaf.mk (ret1 (show false = decide ((k, xs) = (k2, ys)) by rw [eq_comm, decide_eq_false_iff_not]; intro hc; exact h (congrArg (fun q => ((List.length (α := Ver) (Prod.snd q) : Nat) : Int)) hc)))
  refine LoopVC.on (fun i : Nat => [(5, .i .i64 i)]) (fun _ => []) (fun i => i ≤ xs.length ∧ xs.take i = ys.take i) (fun i => xs.length - i) 0 rfl ⟨by omega, by simp⟩ ?_
  intro i ⟨hi, he⟩
  repeat' (first | ((with_reducible refine Ev.mk ?_); conv => whnf) | (with_reducible refine And.intro ?_ ?_) | (intro h))
  all_goals (try simp only [decide_eq_true_eq, decide_eq_false_iff_not, beq_iff_eq, bne_iff_ne, beq_eq_false_iff_ne, bne_eq_false_iff_eq, Int.toNat_natCast, ge_iff_le, gt_iff_lt, Bool.not_eq_true', Bool.not_eq_false', Int.not_lt, Int.not_le, ne_eq] at *)
  all_goals (try dsimp only [Ty.den, Ty.dflt, VerT] at *)
  all_goals (try simp only [eq4, ne4, eq3, ne3, eq2, ne2, Prod.eta, List.length_cons, List.length_nil, List.length_append, Nat.zero_add] at *)
  all_goals (try simp (disch := omega) only [wrap64] at *)
  all_goals try first | exact leafDraw (by kernel_rfl) | exact Leaf.mk trivial | (refine Leaf.mk ?_; omega) | (refine Leaf.mk ?_; unfold maxLen; omega)
  all_goals first
    | exact Leaf.mk (ret1 (show false = decide ((k, xs) = (k2, ys)) by rw [eq_comm, decide_eq_false_iff_not]; intro hc; exact same_not ver0 h (congrArg Prod.snd hc)))
    | exact Leaf.mk ⟨i + 1, rfl, ⟨by omega, same_step ver0 (by omega) he (by omega) h⟩, by omega⟩
    | exact Leaf.mk (ret1 (show true = decide ((k, xs) = (k2, ys)) by rw [eq_comm, decide_eq_true_eq]; rw [same_end (by omega) he (by omega)]; congr 1))
theorem putQ {α : Type} {u v : α × List Int × Int} (h : u = v) : (some ((u.2, ()), (u.1, ()), ()) : Option (((List Int × Int) × Unit) × (α × Unit) × Unit)) = some ((v.2, ()), (v.1, ()), ()) := by rw [h]
def sRSmall : PSpec := ⟨[.d RdT], [⟨true, [.d RdT]⟩, ⟨false, [.d (.int .i64)]⟩], fun _ => True, fun x => (((rdSmall x.1.1 x.1.2).2, ()), ((rdSmall x.1.1 x.1.2).1, ()), ())⟩
theorem fRSmall : FnOk Tryz.prog 100 := ⟨_, Tryz.func100, by decide, rfl⟩
theorem pRSmall : PSound Tryz.prog 100 sRSmall := by
  refine psound (T := tab) (S := (spOf [(164, sGetSmallR.spec (lsOf []))])) (keep := k100) (by kernel_rfl) tabOk (spCons (pOk pGetSmallR fGetSmallR (by decide) lsNil) spNil) (by kernel_rfl) Tryz.func100 (by kernel_rfl) (by decide) fun xs hg hp => ?_
  obtain ⟨⟨b, e⟩, ⟨⟩⟩ := xs
  change List Int at b
  change Int at e
  obtain ⟨⟨⟨hl, hx⟩, -⟩, -⟩ := hg
  clear hl hp
  change ∀ x ∈ b, Eng.Good (.int .u8) x at hx
  have hb0 := getSmall_bd hx
  clear hx
  show vfun tab _ k100 Tryz.f100 [.agg [.sl (.int .u8) b, .i .i64 e]] [] _
  refine Ev.out ?_
  repeat' (first | ((with_reducible refine Ev.mk ?_); conv => whnf) | (with_reducible refine And.intro ?_ ?_) | (intro h))
  all_goals (try simp only [decide_eq_true_eq, decide_eq_false_iff_not, beq_iff_eq, bne_iff_ne, beq_eq_false_iff_ne, bne_eq_false_iff_eq, Int.toNat_natCast, ge_iff_le, gt_iff_lt, Bool.not_eq_true', Bool.not_eq_false', Int.not_lt, Int.not_le, ne_eq] at *)
  all_goals (try dsimp only [Ty.den, Ty.dflt, BT, sGetSmallR, sGetSmall] at *)
  all_goals (try simp only [eq4, ne4, eq3, ne3, eq2, ne2, Prod.eta, List.length_cons, List.length_nil, List.length_append, Nat.zero_add] at *)
  all_goals (try simp (disch := omega) only [wrap64] at *)
  all_goals try first | exact leafDraw (by kernel_rfl) | exact Leaf.mk trivial | (refine Leaf.mk ?_; omega) | (refine Leaf.mk ?_; unfold maxLen; omega)
  · refine Leaf.mk (putQ (u := (0, b, e)) (v := rdSmall b e) ?_)
    unfold rdSmall
    repeat first | rw [if_pos (by assumption)] | rw [if_neg (Int.not_lt.2 (by assumption))] | rw [if_neg (Classical.not_not.2 (by assumption))]
  · skip
    refine Leaf.mk (putQ (u := (0, b, (getSmall b).2.2)) (v := rdSmall b e) ?_)
    unfold rdSmall
    repeat first | rw [if_pos (by assumption)] | rw [if_neg (Int.not_lt.2 (by assumption))] | rw [if_neg (Classical.not_not.2 (by assumption))]
  · skip
    refine Leaf.mk (putQ (u := (0, b, 9)) (v := rdSmall b e) ?_)
    unfold rdSmall
    repeat first | rw [if_pos (by assumption)] | rw [if_neg (Int.not_lt.2 (by assumption))] | rw [if_neg (Classical.not_not.2 (by assumption))]
  · skip
    rw [List.take_length]
    refine Leaf.mk (putQ (u := ((getSmall b).1, b.drop (getSmall b).2.1.toNat, 0)) (v := rdSmall b e) ?_)
    unfold rdSmall
    repeat first | rw [if_pos (by assumption)] | rw [if_neg (Int.not_lt.2 (by assumption))] | rw [if_neg (Classical.not_not.2 (by assumption))]
def sRText : PSpec := ⟨[.d RdT, .d (.int .i64)], [⟨true, [.d RdT]⟩, ⟨false, [.d .str]⟩], fun x => List.length (α := Int) x.1.1 ≤ 100000, fun x => (((rdText x.1.1 x.1.2 x.2.1).2, ()), ((rdText x.1.1 x.1.2 x.2.1).1, ()), ())⟩
theorem fRText : FnOk Tryz.prog 177 := ⟨_, Tryz.func177, by decide, rfl⟩
theorem pRText : PSound Tryz.prog 177 sRText := by
  refine psound (T := tab) (S := (spOf [(222, sGetTextR.spec (lsOf []))])) (keep := k177) (by kernel_rfl) tabOk (spCons (pOk pGetTextR fGetTextR (by decide) lsNil) spNil) (by kernel_rfl) Tryz.func177 (by kernel_rfl) (by decide) fun xs hg hp => ?_
  obtain ⟨⟨b, e⟩, most, ⟨⟩⟩ := xs
  change List Int at b
  change Int at e
  change Int at most
  change b.length ≤ 100000 at hp
  show vfun tab _ k177 Tryz.f177 [.agg [.sl (.int .u8) b, .i .i64 e], .i .i64 most] [] _
  refine Ev.out ?_
  repeat' (first | ((with_reducible refine Ev.mk ?_); conv => whnf) | (with_reducible refine And.intro ?_ ?_) | (intro h))
  all_goals (try simp only [decide_eq_true_eq, decide_eq_false_iff_not, beq_iff_eq, bne_iff_ne, beq_eq_false_iff_ne, bne_eq_false_iff_eq, Int.toNat_natCast, ge_iff_le, gt_iff_lt, Bool.not_eq_true', Bool.not_eq_false', Int.not_lt, Int.not_le, ne_eq] at *)
  all_goals (try dsimp only [Ty.den, Ty.dflt, BT, sGetTextR, sGetText] at *)
  all_goals (try simp only [eq4, ne4, eq3, ne3, eq2, ne2, Prod.eta, List.length_cons, List.length_nil, List.length_append, Nat.zero_add] at *)
  all_goals (try simp (disch := omega) only [wrap64] at *)
  all_goals have hb := getText_bd b
  all_goals try first | exact leafDraw (by kernel_rfl) | exact Leaf.mk trivial | (refine Leaf.mk ?_; omega) | (refine Leaf.mk ?_; unfold maxLen; omega)
  · refine Leaf.mk (putQ (u := ([], b, e)) (v := rdText b e most) ?_)
    unfold rdText
    repeat first | rw [if_pos (by assumption)] | rw [if_neg (Int.not_lt.2 (by assumption))] | rw [if_neg (Classical.not_not.2 (by assumption))]
  · skip
    refine Leaf.mk (putQ (u := ([], b, (getText b).2.2)) (v := rdText b e most) ?_)
    unfold rdText
    repeat first | rw [if_pos (by assumption)] | rw [if_neg (Int.not_lt.2 (by assumption))] | rw [if_neg (Classical.not_not.2 (by assumption))]
  · skip
    refine Leaf.mk (putQ (u := ([], b, 5)) (v := rdText b e most) ?_)
    unfold rdText
    repeat first | rw [if_pos (by assumption)] | rw [if_neg (Int.not_lt.2 (by assumption))] | rw [if_neg (Classical.not_not.2 (by assumption))]
  · skip
    rw [List.take_length]
    refine Leaf.mk (putQ (u := ((getText b).1, b.drop (getText b).2.1.toNat, 0)) (v := rdText b e most) ?_)
    unfold rdText
    repeat first | rw [if_pos (by assumption)] | rw [if_neg (Int.not_lt.2 (by assumption))] | rw [if_neg (Classical.not_not.2 (by assumption))]
end Go.Proofs.YtkmfjlfejdoehaaGreat
