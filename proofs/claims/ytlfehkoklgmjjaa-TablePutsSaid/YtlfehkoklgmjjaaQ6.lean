import Derived.Test.YtlfehkoklgmjjaaQ5
import Derived.Test.YtlfehkoklgmjjaaTab
import Derived.Test.YtlfehkoklgmjjaaEng4
import Derived.Test.YtlfehkoklgmjjaaEng3
/- Texts, one behind the other. -/
set_option linter.unusedVariables false
set_option linter.unusedSimpArgs false
namespace Go.Proofs.Ytlfehkoklgmjjaa
open Go.Eng
abbrev RP : List RK := [.d BT, .d (.int .i64)]
def sNew : NSpec := ⟨[.d BT], RP, fun x => x.1.length ≤ 100000, fun x => (x.1, 0, ())⟩
theorem fNew : FnOk Try.prog 98 := ⟨_, Try.func98, by decide, rfl⟩
theorem pNew : NSound Try.prog 98 sNew := by
  refine nsound (T := tab) (S := (spOf [(151, sBClone.spec (lsOf []))])) (keep := k98) (by kernel_rfl) tabOk (spCons (pOk pBClone fBClone (by decide) lsNil) spNil) (by kernel_rfl) Try.func98 rfl (by kernel_rfl) (by decide) fun xs hg hp => ?_
  obtain ⟨xs, ⟨⟩⟩ := xs
  change List Int at xs
  change xs.length ≤ 100000 at hp
  show vfun tab _ k98 Try.f98 [.sl (.int .u8) xs] [] _
  refine Ev.out ?_
  repeat' (first | ((with_reducible refine Ev.mk ?_); conv => whnf) | (with_reducible refine And.intro ?_ ?_) | (intro h))
  all_goals (try simp only [decide_eq_true_eq, decide_eq_false_iff_not, beq_iff_eq, bne_iff_ne, beq_eq_false_iff_ne, bne_eq_false_iff_eq, Int.toNat_natCast, ge_iff_le, gt_iff_lt, Bool.not_eq_true', Bool.not_eq_false', Int.not_lt, Int.not_le, ne_eq] at *)
  all_goals (try dsimp only [Ty.den, Ty.dflt, BT, sBClone] at *)
  all_goals (try simp only [eq4, ne4, eq3, ne3, eq2, ne2, Prod.eta, List.length_cons, List.length_nil, List.length_append, Nat.zero_add] at *)
  all_goals (try simp (disch := omega) only [wrap64] at *)
  all_goals try first | exact leafDraw (by kernel_rfl) | exact Leaf.mk trivial | (refine Leaf.mk ?_; omega) | (refine Leaf.mk ?_; unfold maxLen; omega)
  · exact Leaf.mk rfl
def sState : MSpec := ⟨[.m RP], [⟨false, [.d (.int .i64)]⟩], fun _ => True, fun x => ((x.1.2.1, ()), x.1, ())⟩
theorem fState : FnOk Try.prog 152 := ⟨_, Try.func152, by decide, rfl⟩
theorem pState : SpecOk Try.prog 152 sState.spec := by
  refine mOk (T := tab) (S := (spOf [])) (keep := k152m) tabOk spNil (by kernel_rfl) Try.func152 (by kernel_rfl) (by kernel_rfl) (by decide) fun xs hg hp => ?_
  obtain ⟨⟨b, e, ⟨⟩⟩, ⟨⟩⟩ := xs
  change List Int at b
  change Int at e
  show vfunM tab _ k152m Try.f152 [.ptr 0 0] [(0, .box [.sl (.int .u8) b, .i .i64 e])] _
  refine Ev.out ?_
  repeat' (first | ((with_reducible refine Ev.mk ?_); conv => whnf) | (with_reducible refine And.intro ?_ ?_) | (intro h))
  all_goals exact Leaf.mk rfl
theorem txt_bd : ∀ (n : Nat) (xs acc : List Int) (p : Nat), xs.length ≤ n → 0 ≤ (txt xs acc p).2.1 ∧ (txt xs acc p).2.1 ≤ ((p + xs.length : Nat) : Int)
  | _, [], acc, p, _ => ⟨Int.le_refl _, by show (0 : Int) ≤ _; omega⟩
  | 0, _ :: _, _, _, h => by simp at h
  | n + 1, c :: r, acc, p, h => by
    simp only [List.length_cons] at h
    by_cases hc : c = 0
    · cases r with
      | nil => rw [txt_end hc]; exact ⟨Int.le_refl _, by show (0 : Int) ≤ _; omega⟩
      | cons d t =>
        simp only [List.length_cons] at h
        rw [txt_esc hc]
        split
        · simp only [List.length_cons]; omega
        · split
          · have := txt_bd n t (acc ++ [0]) (p + 2) (by omega)
            simp only [List.length_cons]; omega
          · exact ⟨Int.le_refl _, by show (0 : Int) ≤ _; omega⟩
    · rw [txt_ne hc]
      have := txt_bd n r (acc ++ [c]) (p + 1) (by omega)
      simp only [List.length_cons]; omega
theorem getText_bd (b : List Int) : 0 ≤ (getText b).2.1 ∧ (getText b).2.1 ≤ (b.length : Int) := by
  have := txt_bd b.length b [] 0 (Nat.le_refl _)
  simpa [getText] using this
theorem putR {α : Type} {u v : α × List Int × Int} (h : u = v) : (some ((u.1, ()), (u.2.1, u.2.2, ()), ()) : Option ((α × Unit) × (List Int × Int × Unit) × Unit)) = some ((v.1, ()), (v.2.1, v.2.2, ()), ()) := by rw [h]
theorem getSmall_bd {b : List Int} (hx : ∀ x ∈ b, Eng.Good (.int .u8) x) : (0 ≤ (getSmall b).2.1 ∧ (getSmall b).2.1 ≤ (b.length : Int)) ∧ 0 ≤ (getSmall b).1 := by
  have h0 := byte0 hx 0
  have hn := numB_bd ((b.take (b.getD 0 0 + 1).toNat).drop 1)
  unfold getSmall
  split
  · simp
  · split
    · simp
    · split
      · simp
      · split
        · simp
        · refine ⟨⟨?_, ?_⟩, hn.1⟩ <;> dsimp only <;> omega
def rdText (b : List Int) (e most : Int) : List UInt8 × List Int × Int :=
  if ¬ e = 0 then ([], b, e) else if ¬ (getText b).2.2 = 0 then ([], b, (getText b).2.2)
  else if (if 0 < most then most else 0) < ((getText b).1.length : Int) then ([], b, 5) else ((getText b).1, b.drop (getText b).2.1.toNat, 0)
def sText : MSpec := ⟨[.m RP, .d (.int .i64)], [⟨false, [.d .str]⟩], fun x => x.1.1.length ≤ 100000, fun x => (((rdText x.1.1 x.1.2.1 x.2.1).1, ()), ((rdText x.1.1 x.1.2.1 x.2.1).2.1, (rdText x.1.1 x.1.2.1 x.2.1).2.2, ()), ())⟩
theorem fText : FnOk Try.prog 101 := ⟨_, Try.func101, by decide, rfl⟩
theorem pText : SpecOk Try.prog 101 sText.spec := by
  refine mOk (T := tab) (S := (spOf [(152, sState.spec), (154, sGetText.spec (lsOf []))])) (keep := k101m) tabOk (spCons (.inl ⟨pState, fState⟩) (spCons (pOk pGetText fGetText (by decide) lsNil) spNil)) (by kernel_rfl) Try.func101 (by kernel_rfl) (by kernel_rfl) (by decide) fun xs hg hp => ?_
  obtain ⟨⟨b, e, ⟨⟩⟩, most, ⟨⟩⟩ := xs
  change List Int at b
  change Int at e
  change Int at most
  change b.length ≤ 100000 at hp
  show vfunM tab _ k101m Try.f101 [.ptr 0 0, .i .i64 most] [(0, .box [.sl (.int .u8) b, .i .i64 e])] _
  refine Ev.out ?_
  repeat' (first | ((with_reducible refine Ev.mk ?_); conv => whnf) | (with_reducible refine And.intro ?_ ?_) | (intro h))
  all_goals (try simp only [decide_eq_true_eq, decide_eq_false_iff_not, beq_iff_eq, bne_iff_ne, beq_eq_false_iff_ne, bne_eq_false_iff_eq, Int.toNat_natCast, ge_iff_le, gt_iff_lt, Bool.not_eq_true', Bool.not_eq_false', Int.not_lt, Int.not_le, ne_eq] at *)
  all_goals (try dsimp only [Ty.den, Ty.dflt, BT, sState, sGetText] at *)
  all_goals (try simp only [eq4, ne4, eq3, ne3, eq2, ne2, Prod.eta, List.length_cons, List.length_nil, List.length_append, Nat.zero_add] at *)
  all_goals (try simp (disch := omega) only [wrap64] at *)
  all_goals have hb := getText_bd b
  all_goals try first | exact leafDraw (by kernel_rfl) | exact Leaf.mk trivial | (refine Leaf.mk ?_; omega) | (refine Leaf.mk ?_; unfold maxLen; omega)
  · refine Leaf.mk (putR (u := ([], b, e)) (v := rdText b e most) ?_)
    rw [rdText, if_pos h]
  · rename_i h1 h2 h3
    refine Leaf.mk (putR (u := ([], b, 5)) (v := rdText b e most) ?_)
    rw [rdText, if_neg (fun hh => hh h1), if_neg (fun hh => hh h2), if_pos h3]
  · rename_i h1 h2 h3
    rw [List.take_length]
    refine Leaf.mk (putR (u := ((getText b).1, b.drop (getText b).2.1.toNat, e)) (v := rdText b e most) ?_)
    rw [rdText, if_neg (fun hh => hh h1), if_neg (fun hh => hh h2), if_neg (by omega), h1]
  · rename_i h1 h2
    refine Leaf.mk (putR (u := ([], b, (getText b).2.2)) (v := rdText b e most) ?_)
    rw [rdText, if_neg (fun hh => hh h1), if_pos h2]
def rdSmall (b : List Int) (e : Int) : Int × List Int × Int :=
  if ¬ e = 0 then (0, b, e) else if ¬ (getSmall b).2.2 = 0 then (0, b, (getSmall b).2.2)
  else if 1099511627776 < (getSmall b).1 then (0, b, 9) else ((getSmall b).1, b.drop (getSmall b).2.1.toNat, 0)
def sSmall : MSpec := ⟨[.m RP], [⟨false, [.d (.int .i64)]⟩], fun x => x.1.1.length ≤ 100000, fun x => (((rdSmall x.1.1 x.1.2.1).1, ()), ((rdSmall x.1.1 x.1.2.1).2.1, (rdSmall x.1.1 x.1.2.1).2.2, ()), ())⟩
theorem fSmall : FnOk Try.prog 99 := ⟨_, Try.func99, by decide, rfl⟩
theorem pSmall : SpecOk Try.prog 99 sSmall.spec := by
  refine mOk (T := tab) (S := (spOf [(152, sState.spec), (153, sGetSmall.spec (lsOf []))])) (keep := k99m) tabOk (spCons (.inl ⟨pState, fState⟩) (spCons (pOk pGetSmall fGetSmall (by decide) lsNil) spNil)) (by kernel_rfl) Try.func99 (by kernel_rfl) (by kernel_rfl) (by decide) fun xs hg hp => ?_
  obtain ⟨⟨b, e, ⟨⟩⟩, ⟨⟩⟩ := xs
  change List Int at b
  change Int at e
  change b.length ≤ 100000 at hp
  obtain ⟨⟨⟨hl, hx⟩, -⟩, -⟩ := hg
  clear hl
  change ∀ x ∈ b, Eng.Good (.int .u8) x at hx
  have hb0 := getSmall_bd hx
  clear hx
  show vfunM tab _ k99m Try.f99 [.ptr 0 0] [(0, .box [.sl (.int .u8) b, .i .i64 e])] _
  refine Ev.out ?_
  repeat' (first | ((with_reducible refine Ev.mk ?_); conv => whnf) | (with_reducible refine And.intro ?_ ?_) | (intro h))
  all_goals (try simp only [decide_eq_true_eq, decide_eq_false_iff_not, beq_iff_eq, bne_iff_ne, beq_eq_false_iff_ne, bne_eq_false_iff_eq, Int.toNat_natCast, ge_iff_le, gt_iff_lt, Bool.not_eq_true', Bool.not_eq_false', Int.not_lt, Int.not_le, ne_eq] at *)
  all_goals (try dsimp only [Ty.den, Ty.dflt, BT, sState, sGetSmall] at *)
  all_goals (try simp only [eq4, ne4, eq3, ne3, eq2, ne2, Prod.eta, List.length_cons, List.length_nil, List.length_append, Nat.zero_add] at *)
  all_goals (try simp (disch := omega) only [wrap64] at *)
  all_goals try first | exact leafDraw (by kernel_rfl) | exact Leaf.mk trivial | (refine Leaf.mk ?_; omega) | (refine Leaf.mk ?_; unfold maxLen; omega)
  · refine Leaf.mk (putR (u := (0, b, e)) (v := rdSmall b e) ?_)
    rw [rdSmall, if_pos h]
  · rename_i h1 h2 h3
    refine Leaf.mk (putR (u := (0, b, 9)) (v := rdSmall b e) ?_)
    rw [rdSmall, if_neg (fun hh => hh h1), if_neg (fun hh => hh h2), if_pos h3]
  · rename_i h1 h2 h3
    rw [List.take_length]
    refine Leaf.mk (putR (u := ((getSmall b).1, b.drop (getSmall b).2.1.toNat, e)) (v := rdSmall b e) ?_)
    rw [rdSmall, if_neg (fun hh => hh h1), if_neg (fun hh => hh h2), if_neg (by omega), h1]
  · rename_i h1 h2
    refine Leaf.mk (putR (u := (0, b, (getSmall b).2.2)) (v := rdSmall b e) ?_)
    rw [rdSmall, if_neg (fun hh => hh h1), if_pos h2]
end Go.Proofs.Ytlfehkoklgmjjaa

set_option linter.unusedVariables false
set_option linter.unusedSimpArgs false
namespace Go.Proofs.Ytlfehkoklgmjjaa
open Go.Eng
def isB (xs : List Int) : Prop := ∀ x ∈ xs, 0 ≤ x ∧ x ≤ 255
theorem isB_good {xs : List Int} (h : ∀ x ∈ xs, Eng.Good (.int .u8) x) : isB xs := fun x hx => byte_mem h hx
theorem isB_append {xs ys : List Int} (h : isB xs) (k : isB ys) : isB (xs ++ ys) := fun x hx => (List.mem_append.1 hx).elim (h x) (k x)
theorem isB_str (s : List UInt8) : isB (bytesOfStr s) := fun x hx => by
  obtain ⟨c, _, rfl⟩ := List.mem_map.1 hx
  have := c.toNat_lt
  omega
theorem isB_put (s : List UInt8) : isB (putText s) := fun x hx => by
  unfold putText putB at hx
  rcases List.mem_append.1 hx with h | h
  · obtain ⟨c, hc, h⟩ := List.mem_flatMap.1 h
    have := isB_str s c hc
    unfold escI at h
    split at h <;> simp at h <;> omega
  · simp at h; omega
theorem isB_lay : ∀ (k : Nat) (n : Int), isB (layB n k)
  | 0, n => fun x hx => by simp [layB] at hx
  | k + 1, n => by
    rw [layB]
    refine isB_append (isB_lay k _) fun x hx => ?_
    simp at hx; omega
theorem isB_small (n : Int) : isB (putSmall n) := fun x hx => by
  unfold putSmall at hx
  rcases List.mem_cons.1 hx with h | h
  · have := widthN_le 8 n; omega
  · exact isB_lay _ _ x h
theorem str_bytes (s : List UInt8) : strOfBytes (bytesOfStr s) = s := by
  unfold strOfBytes bytesOfStr
  rw [List.map_map]
  conv => rhs; rw [← List.map_id s]
  refine List.map_congr_left fun c _ => ?_
  simp
theorem putB_cons (x : Int) (xs : List Int) : putB (x :: xs) = escI x ++ putB xs := by simp [putB]
end Go.Proofs.Ytlfehkoklgmjjaa

set_option linter.unusedVariables false
set_option linter.unusedSimpArgs false
namespace Go.Proofs.Ytlfehkoklgmjjaa
open Go.Eng
theorem p8 : (256 : Int) ^ 8 = 18446744073709551616 := by decide
theorem widthN_zero : ∀ f, widthN f 0 = 0
  | 0 => rfl
  | f + 1 => by rw [widthN, if_neg (by omega)]
theorem widthN_hi : ∀ (f : Nat) (n : Int), 0 ≤ n → n < 256 ^ f → n < 256 ^ (widthN f n)
  | 0, n, h1, h2 => h2
  | f + 1, n, h1, h2 => by
    rw [Int.pow_succ] at h2
    rw [widthN]
    split
    · have := widthN_hi f (n / 256) (by omega) (Int.ediv_lt_of_lt_mul (by decide) h2)
      rw [Int.pow_succ]; omega
    · rw [Int.pow_zero]; omega
theorem widthN_lo : ∀ (f : Nat) (n : Int), 0 < n → n < 256 ^ f → ∃ w, widthN f n = w + 1 ∧ 256 ^ w ≤ n
  | 0, n, h1, h2 => by rw [Int.pow_zero] at h2; omega
  | f + 1, n, h1, h2 => by
    rw [Int.pow_succ] at h2
    rw [widthN, if_pos h1]
    refine ⟨_, rfl, ?_⟩
    by_cases h0 : n / 256 = 0
    · rw [h0, widthN_zero, Int.pow_zero]; omega
    · obtain ⟨w, hw, hl⟩ := widthN_lo f (n / 256) (by omega) (Int.ediv_lt_of_lt_mul (by decide) h2)
      rw [hw, Int.pow_succ]; omega
theorem txt_put (b : List Int) : ∀ (xs acc : List Int) (p : Nat), txt (putB xs ++ b) acc p = (acc ++ xs, ((p + (putB xs).length : Nat) : Int), 0)
  | [], acc, p => by
    show txt (0 :: 1 :: b) acc p = _
    rw [txt_esc rfl, if_pos rfl, List.append_nil]; rfl
  | x :: xs, acc, p => by
    rw [putB_cons, List.append_assoc]
    unfold escI
    by_cases h : x = 0
    · rw [if_pos h]
      show txt (0 :: 255 :: (putB xs ++ b)) acc p = _
      rw [txt_esc rfl, if_neg (by omega), if_pos rfl, txt_put b xs]
      subst h
      simp only [List.append_assoc, List.cons_append, List.nil_append, List.length_cons]
      congr 3; omega
    · rw [if_neg h]
      show txt (x :: (putB xs ++ b)) acc p = _
      rw [txt_ne h, txt_put b xs]
      simp only [List.append_assoc, List.cons_append, List.nil_append, List.length_cons]
      congr 3; omega
theorem getText_put (s : List UInt8) (b : List Int) : getText (putText s ++ b) = (s, (((putText s).length : Nat) : Int), 0) := by
  unfold getText putText
  rw [txt_put]
  simp [str_bytes]
theorem numB_lay : ∀ (k : Nat) (n : Int), 0 ≤ n → n < 256 ^ k → n ≤ 18446744073709551615 → numB (layB n k) = n
  | 0, n, h1, h2, _ => by rw [Int.pow_zero] at h2; rw [show n = 0 by omega]; rfl
  | k + 1, n, h1, h2, h3 => by
    rw [Int.pow_succ] at h2
    have ih := numB_lay k (n / 256) (by omega) (Int.ediv_lt_of_lt_mul (by decide) h2) (by omega)
    unfold numB at ih ⊢
    rw [layB, List.foldl_append, ih]
    simp only [List.foldl_cons, List.foldl_nil]
    omega
theorem lay_head {n : Int} (hn : 0 < n) (h : n ≤ 18446744073709551615) : ∃ c r w, widthN 8 n = w + 1 ∧ layB n (widthN 8 n) = c :: r ∧ ¬ c = 0 := by
  obtain ⟨w, hw, hl⟩ := widthN_lo 8 n hn (by rw [p8]; omega)
  have hh := widthN_hi 8 n (by omega) (by rw [p8]; omega)
  rw [hw, Int.pow_succ] at hh
  refine ⟨_, _, w, hw, by rw [hw, layB_top], ?_⟩
  have hp : (0 : Int) < 256 ^ w := Int.pow_pos (by decide)
  have h1 : 1 ≤ n / 256 ^ w := by rw [Int.le_ediv_iff_mul_le hp]; omega
  have h2 : n / 256 ^ w < 256 := Int.ediv_lt_of_lt_mul hp (by omega)
  omega
theorem getSmall_put {n : Int} (hn : 0 ≤ n ∧ n ≤ 18446744073709551615) (b : List Int) : getSmall (putSmall n ++ b) = (n, (((putSmall n).length : Nat) : Int), 0) := by
  have hw := widthN_le 8 n
  have hl : (layB n (widthN 8 n)).length = widthN 8 n := layB_len _ _
  have h0 : (putSmall n ++ b).getD 0 0 = ((widthN 8 n : Nat) : Int) := by unfold putSmall; simp
  have hlen : (putSmall n).length = widthN 8 n + 1 := by unfold putSmall; simp [hl]
  have h1 : ¬ (0 < ((widthN 8 n : Nat) : Int) ∧ (putSmall n ++ b).getD 1 0 = 0) := by
    intro ⟨p, q⟩
    have : 0 < n := by
      rcases Int.lt_or_le 0 n with h | h
      · exact h
      · rw [show n = 0 by omega, widthN_zero] at p; omega
    obtain ⟨c, r, w, e1, e2, e3⟩ := lay_head this hn.2
    unfold putSmall at q
    rw [e2] at q
    simp at q
    exact e3 q
  unfold getSmall
  rw [h0, if_neg (by rw [List.length_append]; omega), if_neg (by omega), if_neg (by rw [List.length_append]; omega), if_neg h1]
  rw [show (((widthN 8 n : Nat) : Int) + 1).toNat = (putSmall n).length by omega, List.take_left' rfl]
  have e : (putSmall n).drop 1 = layB n (widthN 8 n) := rfl
  rw [e, numB_lay _ _ hn.1 (widthN_hi 8 n hn.1 (by rw [p8]; omega)) hn.2, hlen]
  rfl
end Go.Proofs.Ytlfehkoklgmjjaa

set_option linter.unusedVariables false
set_option linter.unusedSimpArgs false
namespace Go.Proofs.Ytlfehkoklgmjjaa
open Go.Eng
theorem putText_len (s : List UInt8) : (putText s).length ≤ 2 * s.length + 2 := by
  have := escI_len (bytesOfStr s)
  have e : (bytesOfStr s).length = s.length := by simp [bytesOfStr]
  simp only [putText, putB, List.length_append, List.length_cons, List.length_nil]; omega
theorem putSmall_len (n : Int) : 1 ≤ (putSmall n).length ∧ (putSmall n).length ≤ 9 := by
  have hw := widthN_le 8 n
  have hl : (layB n (widthN 8 n)).length = widthN 8 n := layB_len _ _
  simp only [putSmall, List.length_cons]; omega
theorem bytes_str : ∀ (xs : List Int), isB xs → bytesOfStr (strOfBytes xs) = xs
  | [], _ => rfl
  | x :: r, h => by
    have hx := h x (by simp)
    have ih := bytes_str r (fun z hz => h z (by simp [hz]))
    show ((UInt8.ofNat x.toNat).toNat : Int) :: bytesOfStr (strOfBytes r) = _
    rw [ih, UInt8.toNat_ofNat']
    congr 1; omega
theorem str_inj {xs ys : List Int} (hx : isB xs) (hy : isB ys) (h : strOfBytes xs = strOfBytes ys) : xs = ys := by
  rw [← bytes_str xs hx, h, bytes_str ys hy]
end Go.Proofs.Ytlfehkoklgmjjaa

set_option linter.unusedVariables false
set_option linter.unusedSimpArgs false
namespace Go.Proofs.Ytlfehkoklgmjjaa
open Go.Eng
abbrev Ver := Int × Int × Bool × List UInt8
abbrev Stk := List UInt8 × List Ver
def pend (me : Int) (v : Ver) : Bool := decide (v.2.1 = 0 ∧ v.1 = me ∧ 0 ≤ me)
end Go.Proofs.Ytlfehkoklgmjjaa

set_option linter.unusedVariables false
set_option linter.unusedSimpArgs false
namespace Go.Proofs.Ytlfehkoklgmjjaa
open Go.Eng
def roomP (me : Int) (v : Ver) : Bool := (v.2.1 == 0) && (v.1 == me)
def room (s : Stk) (me : Int) : Bool := decide (s.2.length < 8) || s.2.any (roomP me)
def okTs (at' : Int) (v : Ver) : Bool := decide (1 ≤ v.2.1 ∧ v.2.1 ≤ at')
end Go.Proofs.Ytlfehkoklgmjjaa

set_option linter.unusedVariables false
set_option linter.unusedSimpArgs false
namespace Go.Proofs.Ytlfehkoklgmjjaa
open Go.Eng
abbrev ver0 : Ver := (0, 0, false, [])
def inB (n : Int) : Bool := decide (0 ≤ n ∧ n ≤ 1099511627776)
def ordered1 (v : Ver) : Bool := v.2.1 == 0
def firstZ (xs : List Ver) : Nat := if idxF ordered1 xs 0 < 0 then xs.length else (idxF ordered1 xs 0).toNat
def OrdA (xs : List Ver) (n : Nat) : Prop := ∀ j, j < n → 1 ≤ j → (xs.getD (j - 1) ver0).2.1 ≤ (xs.getD j ver0).2.1
def OrdB : List Ver → List Int → Prop
  | [], _ => True
  | v :: r, l => v.2.1 = 0 ∧ v.1 ∉ l ∧ OrdB r (v.1 :: l)
instance : ∀ (xs : List Ver) (l : List Int), Decidable (OrdB xs l)
  | [], _ => .isTrue trivial
  | v :: r, l => by
    have := instDecidableOrdB r (v.1 :: l)
    unfold OrdB
    exact inferInstance
instance (xs : List Ver) (n : Nat) : Decidable (OrdA xs n) := by unfold OrdA; exact inferInstance
def ordered (xs : List Ver) : Bool := decide (OrdA xs (firstZ xs) ∧ OrdB (xs.drop (firstZ xs)) [])
end Go.Proofs.Ytlfehkoklgmjjaa

set_option linter.unusedVariables false
set_option linter.unusedSimpArgs false
namespace Go.Proofs.Ytlfehkoklgmjjaa
open Go.Eng
def write (s : Stk) (v : Ver) : Stk :=
  if 0 ≤ idxF (roomP v.1) s.2 0 then (s.1, s.2.set (idxF (roomP v.1) s.2 0).toNat (v.1, 0, v.2.2)) else if s.2.length < 8 then (s.1, s.2 ++ [(v.1, 0, v.2.2)]) else s
end Go.Proofs.Ytlfehkoklgmjjaa

set_option linter.unusedVariables false
set_option linter.unusedSimpArgs false
set_option maxRecDepth 8000
namespace Go.Proofs.Ytlfehkoklgmjjaa
open Go.Eng
abbrev RdT : Ty := .pair BT (.int .i64)
def sLeft : MSpec := ⟨[.m RP], [⟨false, [.d (.int .i64)]⟩], fun _ => True, fun x => (((List.length (α := Int) x.1.1 : Nat), ()), x.1, ())⟩
theorem fLeft : FnOk Try.prog 100 := ⟨_, Try.func100, by decide, rfl⟩
theorem pLeft : SpecOk Try.prog 100 sLeft.spec := by
  refine mOk (T := tab) (S := (spOf [])) (keep := k100m) tabOk spNil (by kernel_rfl) Try.func100 (by kernel_rfl) (by kernel_rfl) (by decide) fun xs hg hp => ?_
  obtain ⟨⟨b, e, ⟨⟩⟩, ⟨⟩⟩ := xs
  change List Int at b
  change Int at e
  show vfunM tab _ k100m Try.f100 [.ptr 0 0] [(0, .box [.sl (.int .u8) b, .i .i64 e])] _
  refine Ev.out ?_
  repeat' (first | ((with_reducible refine Ev.mk ?_); conv => whnf) | (with_reducible refine And.intro ?_ ?_) | (intro h))
  all_goals exact Leaf.mk rfl
def sBEqual : PSpec := ⟨[.d BT, .d BT], [⟨false, [.d .bool]⟩], fun _ => True, fun x => ((strOfBytes x.1 == strOfBytes x.2.1, ()), ())⟩
theorem fBEqual : FnOk Try.prog 102 := ⟨_, Try.func102, by decide, rfl⟩
theorem pBEqual : PSound Try.prog 102 sBEqual := by
  refine psound (T := tab) (S := (spOf [])) (keep := k102) (by kernel_rfl) tabOk spNil (by kernel_rfl) Try.func102 (by kernel_rfl) (by decide) fun xs hg hp => ?_
  obtain ⟨xs, ys, ⟨⟩⟩ := xs
  show vfun tab _ k102 Try.f102 [.sl (.int .u8) xs, .sl (.int .u8) ys] [] _
  refine Ev.out ?_
  repeat' (first | ((with_reducible refine Ev.mk ?_); conv => whnf) | (with_reducible refine And.intro ?_ ?_) | (intro h))
  all_goals exact Leaf.mk rfl
theorem putQ {α : Type} {u v : α × List Int × Int} (h : u = v) : (some ((u.2, ()), (u.1, ()), ()) : Option (((List Int × Int) × Unit) × (α × Unit) × Unit)) = some ((v.2, ()), (v.1, ()), ()) := by rw [h]
def sRSmall : PSpec := ⟨[.d RdT], [⟨true, [.d RdT]⟩, ⟨false, [.d (.int .i64)]⟩], fun _ => True, fun x => (((rdSmall x.1.1 x.1.2).2, ()), ((rdSmall x.1.1 x.1.2).1, ()), ())⟩
theorem fRSmall : FnOk Try.prog 103 := ⟨_, Try.func103, by decide, rfl⟩
theorem pRSmall : PSound Try.prog 103 sRSmall := by
  refine psound (T := tab) (S := (spOf [(155, sGetSmallR.spec (lsOf []))])) (keep := k103) (by kernel_rfl) tabOk (spCons (pOk pGetSmallR fGetSmallR (by decide) lsNil) spNil) (by kernel_rfl) Try.func103 (by kernel_rfl) (by decide) fun xs hg hp => ?_
  obtain ⟨⟨b, e⟩, ⟨⟩⟩ := xs
  change List Int at b
  change Int at e
  obtain ⟨⟨⟨hl, hx⟩, -⟩, -⟩ := hg
  clear hl hp
  change ∀ x ∈ b, Eng.Good (.int .u8) x at hx
  have hb0 := getSmall_bd hx
  clear hx
  show vfun tab _ k103 Try.f103 [.agg [.sl (.int .u8) b, .i .i64 e]] [] _
  refine Ev.out ?_
  repeat' (first | ((with_reducible refine Ev.mk ?_); conv => whnf) | (with_reducible refine And.intro ?_ ?_) | (intro h))
  all_goals (try simp only [decide_eq_true_eq, decide_eq_false_iff_not, beq_iff_eq, bne_iff_ne, beq_eq_false_iff_ne, bne_eq_false_iff_eq, Int.toNat_natCast, ge_iff_le, gt_iff_lt, Bool.not_eq_true', Bool.not_eq_false', Int.not_lt, Int.not_le, ne_eq] at *)
  all_goals (try dsimp only [Ty.den, Ty.dflt, BT, sGetSmallR, sGetSmall] at *)
  all_goals (try simp only [eq4, ne4, eq3, ne3, eq2, ne2, Prod.eta, List.length_cons, List.length_nil, List.length_append, Nat.zero_add] at *)
  all_goals (try simp (disch := omega) only [wrap64] at *)
  all_goals try first | exact leafDraw (by kernel_rfl) | exact Leaf.mk trivial | (refine Leaf.mk ?_; omega) | (refine Leaf.mk ?_; unfold maxLen; omega)
  · refine Leaf.mk (putQ (u := (0, b, e)) (v := rdSmall b e) ?_)
    unfold rdSmall
    repeat first | rw [if_pos (by assumption)] | rw [if_neg (Int.not_lt.2 (by assumption))] | rw [if_neg (Classical.not_not.2 (by assumption))]
  · skip
    refine Leaf.mk (putQ (u := (0, b, (getSmall b).2.2)) (v := rdSmall b e) ?_)
    unfold rdSmall
    repeat first | rw [if_pos (by assumption)] | rw [if_neg (Int.not_lt.2 (by assumption))] | rw [if_neg (Classical.not_not.2 (by assumption))]
  · skip
    refine Leaf.mk (putQ (u := (0, b, 9)) (v := rdSmall b e) ?_)
    unfold rdSmall
    repeat first | rw [if_pos (by assumption)] | rw [if_neg (Int.not_lt.2 (by assumption))] | rw [if_neg (Classical.not_not.2 (by assumption))]
  · skip
    rw [List.take_length]
    refine Leaf.mk (putQ (u := ((getSmall b).1, b.drop (getSmall b).2.1.toNat, 0)) (v := rdSmall b e) ?_)
    unfold rdSmall
    repeat first | rw [if_pos (by assumption)] | rw [if_neg (Int.not_lt.2 (by assumption))] | rw [if_neg (Classical.not_not.2 (by assumption))]
def sRText : PSpec := ⟨[.d RdT, .d (.int .i64)], [⟨true, [.d RdT]⟩, ⟨false, [.d .str]⟩], fun x => List.length (α := Int) x.1.1 ≤ 100000, fun x => (((rdText x.1.1 x.1.2 x.2.1).2, ()), ((rdText x.1.1 x.1.2 x.2.1).1, ()), ())⟩
theorem fRText : FnOk Try.prog 104 := ⟨_, Try.func104, by decide, rfl⟩
theorem pRText : PSound Try.prog 104 sRText := by
  refine psound (T := tab) (S := (spOf [(156, sGetTextR.spec (lsOf []))])) (keep := k104) (by kernel_rfl) tabOk (spCons (pOk pGetTextR fGetTextR (by decide) lsNil) spNil) (by kernel_rfl) Try.func104 (by kernel_rfl) (by decide) fun xs hg hp => ?_
  obtain ⟨⟨b, e⟩, most, ⟨⟩⟩ := xs
  change List Int at b
  change Int at e
  change Int at most
  change b.length ≤ 100000 at hp
  show vfun tab _ k104 Try.f104 [.agg [.sl (.int .u8) b, .i .i64 e], .i .i64 most] [] _
  refine Ev.out ?_
  repeat' (first | ((with_reducible refine Ev.mk ?_); conv => whnf) | (with_reducible refine And.intro ?_ ?_) | (intro h))
  all_goals (try simp only [decide_eq_true_eq, decide_eq_false_iff_not, beq_iff_eq, bne_iff_ne, beq_eq_false_iff_ne, bne_eq_false_iff_eq, Int.toNat_natCast, ge_iff_le, gt_iff_lt, Bool.not_eq_true', Bool.not_eq_false', Int.not_lt, Int.not_le, ne_eq] at *)
  all_goals (try dsimp only [Ty.den, Ty.dflt, BT, sGetTextR, sGetText] at *)
  all_goals (try simp only [eq4, ne4, eq3, ne3, eq2, ne2, Prod.eta, List.length_cons, List.length_nil, List.length_append, Nat.zero_add] at *)
  all_goals (try simp (disch := omega) only [wrap64] at *)
  all_goals have hb := getText_bd b
  all_goals try first | exact leafDraw (by kernel_rfl) | exact Leaf.mk trivial | (refine Leaf.mk ?_; omega) | (refine Leaf.mk ?_; unfold maxLen; omega)
  · refine Leaf.mk (putQ (u := ([], b, e)) (v := rdText b e most) ?_)
    unfold rdText
    repeat first | rw [if_pos (by assumption)] | rw [if_neg (Int.not_lt.2 (by assumption))] | rw [if_neg (Classical.not_not.2 (by assumption))]
  · skip
    refine Leaf.mk (putQ (u := ([], b, (getText b).2.2)) (v := rdText b e most) ?_)
    unfold rdText
    repeat first | rw [if_pos (by assumption)] | rw [if_neg (Int.not_lt.2 (by assumption))] | rw [if_neg (Classical.not_not.2 (by assumption))]
  · skip
    refine Leaf.mk (putQ (u := ([], b, 5)) (v := rdText b e most) ?_)
    unfold rdText
    repeat first | rw [if_pos (by assumption)] | rw [if_neg (Int.not_lt.2 (by assumption))] | rw [if_neg (Classical.not_not.2 (by assumption))]
  · skip
    rw [List.take_length]
    refine Leaf.mk (putQ (u := ((getText b).1, b.drop (getText b).2.1.toNat, 0)) (v := rdText b e most) ?_)
    unfold rdText
    repeat first | rw [if_pos (by assumption)] | rw [if_neg (Int.not_lt.2 (by assumption))] | rw [if_neg (Classical.not_not.2 (by assumption))]
end Go.Proofs.Ytlfehkoklgmjjaa

set_option linter.unusedVariables false
set_option linter.unusedSimpArgs false
set_option maxRecDepth 8000
namespace Go.Proofs.Ytlfehkoklgmjjaa
open Go.Eng
theorem rdSmall_put {n : Int} (h0 : 0 ≤ n) (h1 : n ≤ 1099511627776) (r : List Int) : rdSmall (putSmall n ++ r) 0 = (n, r, 0) := by
  have hg := getSmall_put (n := n) (by omega) r
  rw [rdSmall, if_neg (by simp), hg]
  dsimp only
  rw [if_neg (by simp), if_neg (by omega), Int.toNat_natCast, List.drop_left']
  rfl
theorem rdText_put {k : List UInt8} {m : Int} (h0 : (k.length : Int) ≤ m) (r : List Int) : rdText (putText k ++ r) 0 m = (k, r, 0) := by
  have hg := getText_put k r
  rw [rdText, if_neg (by simp), hg]
  dsimp only
  rw [if_neg (by simp), if_neg (by split <;> omega), Int.toNat_natCast, List.drop_left']
  rfl
end Go.Proofs.Ytlfehkoklgmjjaa

set_option linter.unusedVariables false
set_option linter.unusedSimpArgs false
set_option maxRecDepth 8000
set_option maxHeartbeats 4000000
namespace Go.Proofs.Ytlfehkoklgmjjaa
open Go.Eng
abbrev TxnT : Ty := .pair (.int .i64) (.pair (.int .i64) (.slice .str))
abbrev Txn := Int × Int × List (List UInt8)
abbrev txn0 : Txn := (0, 0, [])
abbrev TabT : Ty := .pair (.int .i64) (.slice TxnT)
abbrev Tabl := Int × List Txn
def sTIn : PSpec := ⟨[.d (.int .i64)], [⟨false, [.d .bool]⟩], fun _ => True, fun x => ((inB x.1, ()), ())⟩
def sTInR : PSpec := sTIn
theorem fTIn : FnOk Try.prog 106 := ⟨_, Try.func106, by decide, rfl⟩
theorem pTIn : PSound Try.prog 106 sTIn := by
  refine psound (T := tab) (S := (spOf [])) (keep := k106) (by kernel_rfl) tabOk spNil (by kernel_rfl) Try.func106 (by kernel_rfl) (by decide) fun xs hg hp => ?_
  obtain ⟨n, ⟨⟩⟩ := xs
  change Int at n
  show vfun tab _ k106 Try.f106 [.i .i64 n] [] _
  refine Ev.out ?_
  repeat' (first | ((with_reducible refine Ev.mk ?_); conv => whnf) | (with_reducible refine And.intro ?_ ?_) | (intro h))
  all_goals (try simp only [decide_eq_true_eq, decide_eq_false_iff_not, beq_iff_eq, bne_iff_ne, beq_eq_false_iff_ne, bne_eq_false_iff_eq, Int.toNat_natCast, ge_iff_le, gt_iff_lt, Bool.not_eq_true', Bool.not_eq_false', Int.not_lt, Int.not_le, ne_eq] at *)
  all_goals (try dsimp only [Ty.den, Ty.dflt, TxnT] at *)
  all_goals (try simp only [eq4, ne4, eq3, ne3, eq2, ne2, Prod.eta, List.length_cons, List.length_nil, List.length_append, Nat.zero_add] at *)
  all_goals (try simp (disch := omega) only [wrap64] at *)
  all_goals
    refine Leaf.mk (ret1 (show _ = inB n from ?_))
    simp only [inB]
    first
    | (rw [decide_eq_false (p := 0 ≤ n ∧ n ≤ 1099511627776) (by omega)]; done)
    | (congr 1; simp only [eq_iff_iff]; omega)
theorem fTInR : FnOk Try.prog 111 := ⟨_, Try.func111, by decide, rfl⟩
theorem pTInR : PSound Try.prog 111 sTInR := by
  refine psound (T := tab) (S := (spOf [])) (keep := k111) (by kernel_rfl) tabOk spNil (by kernel_rfl) Try.func111 (by kernel_rfl) (by decide) fun xs hg hp => ?_
  obtain ⟨n, ⟨⟩⟩ := xs
  change Int at n
  show vfun tab _ k111 Try.f111 [.i .i64 n] [] _
  refine Ev.out ?_
  repeat' (first | ((with_reducible refine Ev.mk ?_); conv => whnf) | (with_reducible refine And.intro ?_ ?_) | (intro h))
  all_goals (try simp only [decide_eq_true_eq, decide_eq_false_iff_not, beq_iff_eq, bne_iff_ne, beq_eq_false_iff_ne, bne_eq_false_iff_eq, Int.toNat_natCast, ge_iff_le, gt_iff_lt, Bool.not_eq_true', Bool.not_eq_false', Int.not_lt, Int.not_le, ne_eq] at *)
  all_goals (try dsimp only [Ty.den, Ty.dflt, TxnT] at *)
  all_goals (try simp only [eq4, ne4, eq3, ne3, eq2, ne2, Prod.eta, List.length_cons, List.length_nil, List.length_append, Nat.zero_add] at *)
  all_goals (try simp (disch := omega) only [wrap64] at *)
  all_goals
    refine Leaf.mk (ret1 (show _ = inB n from ?_))
    simp only [inB]
    first
    | (rw [decide_eq_false (p := 0 ≤ n ∧ n ≤ 1099511627776) (by omega)]; done)
    | (congr 1; simp only [eq_iff_iff]; omega)
def setK (l : List (List UInt8)) : Bool := decide (l.Pairwise (· < ·))
theorem setK_no {l : List (List UInt8)} {i : Nat} (h0 : 0 < i) (hi : i < l.length) (h : sless (l.getD (i - 1) []) (l.getD i []) = false) : false = setK l := by
  refine (decide_eq_false fun hc => ?_).symm
  have h2 := List.pairwise_iff_getElem.1 hc (i - 1) i (by omega) hi (by omega)
  have e : ∀ a (ha : a < l.length), l.getD a [] = l[a] := fun a ha => by rw [List.getD_eq_getElem?_getD, List.getElem?_eq_getElem ha]; rfl
  rw [e i hi, e (i - 1) (by omega), sless_iff.2 h2] at h
  cases h
theorem setK_yes {l : List (List UInt8)} (h : ∀ j, j + 1 < l.length → l.getD j [] < l.getD (j + 1) []) : true = setK l := by
  refine (decide_eq_true ?_).symm
  have hd : ∀ d i, i + d + 1 < l.length → l.getD i [] < l.getD (i + d + 1) [] := by
    intro d
    induction d with
    | zero => intro i hi; exact h i hi
    | succ d ih => intro i hi; exact slt_trans (ih i (by omega)) (h (i + d + 1) hi)
  refine List.pairwise_iff_getElem.2 fun i j hi hj hij => ?_
  have := hd (j - i - 1) i (by omega)
  rw [show i + (j - i - 1) + 1 = j by omega] at this
  rwa [List.getD_eq_getElem?_getD, List.getElem?_eq_getElem hi, List.getD_eq_getElem?_getD, List.getElem?_eq_getElem hj] at this
def sSetK : PSpec := ⟨[.d TxT], [⟨false, [.d .bool]⟩], fun _ => True, fun x => ((setK x.1, ()), ())⟩
def sSetKR : PSpec := sSetK
theorem fSetK : FnOk Try.prog 158 := ⟨_, Try.func158, by decide, rfl⟩
theorem pSetK : PSound Try.prog 158 sSetK := by
  refine psound (T := tab) (S := (spOf [])) (keep := k158) (by kernel_rfl) tabOk spNil (by kernel_rfl) Try.func158 (by kernel_rfl) (by decide) fun xs hg hp => ?_
  obtain ⟨l, ⟨⟩⟩ := xs
  obtain ⟨⟨hl, -⟩, -⟩ := hg
  change List (List UInt8) at l
  change l.length ≤ _ at hl
  have hl := len63 hl
  clear hp
  show vfun tab _ k158 Try.f158 [.sl .str l] [] _
  refine Ev.out ?_
  repeat' (first | ((with_reducible refine Ev.mk ?_); conv => whnf) | (with_reducible refine And.intro ?_ ?_) | (intro h))
  all_goals (try simp only [decide_eq_true_eq, decide_eq_false_iff_not, beq_iff_eq, bne_iff_ne, beq_eq_false_iff_ne, bne_eq_false_iff_eq, Int.toNat_natCast, ge_iff_le, gt_iff_lt, Bool.not_eq_true', Bool.not_eq_false', Int.not_lt, Int.not_le, ne_eq] at *)
  all_goals (try dsimp only [Ty.den, Ty.dflt, TxT] at *)
  all_goals (try simp only [eq4, ne4, eq3, ne3, eq2, ne2, Prod.eta, List.length_cons, List.length_nil, List.length_append, Nat.zero_add] at *)
  all_goals (try simp (disch := omega) only [wrap64] at *)
  all_goals try first | exact leafDraw (by kernel_rfl) | exact Leaf.mk trivial | (refine Leaf.mk ?_; omega) | (refine Leaf.mk ?_; unfold maxLen; omega)
  refine LoopVC.on (fun i : Nat => [(3, .i .i64 ((i : Int) + 1))]) (fun _ => []) (fun i => (i + 1 ≤ l.length ∨ i = 0) ∧ ∀ j, j < i → l.getD j [] < l.getD (j + 1) []) (fun i => l.length - i) 0 rfl ⟨.inr rfl, fun j hj => by omega⟩ ?_
  intro i ⟨hi, ha⟩
  repeat' (first | ((with_reducible refine Ev.mk ?_); conv => whnf) | (with_reducible refine And.intro ?_ ?_) | (intro h))
  all_goals (try simp only [decide_eq_true_eq, decide_eq_false_iff_not, beq_iff_eq, bne_iff_ne, beq_eq_false_iff_ne, bne_eq_false_iff_eq, Int.toNat_natCast, ge_iff_le, gt_iff_lt, Bool.not_eq_true', Bool.not_eq_false', Int.not_lt, Int.not_le, ne_eq] at *)
  all_goals (try dsimp only [Ty.den, Ty.dflt, TxT] at *)
  all_goals (try simp only [eq4, ne4, eq3, ne3, eq2, ne2, Prod.eta, List.length_cons, List.length_nil, List.length_append, Nat.zero_add] at *)
  all_goals (try simp (disch := omega) only [wrap64] at *)
  all_goals try first | exact leafDraw (by kernel_rfl) | exact Leaf.mk trivial | (refine Leaf.mk ?_; omega) | (refine Leaf.mk ?_; unfold maxLen; omega)
  all_goals try rw [show ((i : Int) + 1 - 1).toNat = i by omega, show ((i : Int) + 1).toNat = i + 1 by omega] at *
  · refine Leaf.mk (ret1 (show false = setK l from setK_no (i := i + 1) (by omega) (by omega) ?_))
    assumption
  · refine Leaf.mk (Exists.intro (i + 1) ⟨rfl, ⟨by omega, fun j hj => ?_⟩, by omega⟩)
    rcases Nat.lt_or_ge j i with hji | hji
    · exact ha j hji
    · obtain rfl : j = i := by omega
      exact sless_iff.1 (by assumption)
  · exact Leaf.mk (ret1 (show true = setK l from setK_yes fun j hj => ha j (by omega)))
theorem fSetKR : FnOk Try.prog 112 := ⟨_, Try.func112, by decide, rfl⟩
theorem pSetKR : PSound Try.prog 112 sSetKR := by
  refine psound (T := tab) (S := (spOf [])) (keep := k112) (by kernel_rfl) tabOk spNil (by kernel_rfl) Try.func112 (by kernel_rfl) (by decide) fun xs hg hp => ?_
  obtain ⟨l, ⟨⟩⟩ := xs
  obtain ⟨⟨hl, -⟩, -⟩ := hg
  change List (List UInt8) at l
  change l.length ≤ _ at hl
  have hl := len63 hl
  clear hp
  show vfun tab _ k112 Try.f112 [.sl .str l] [] _
  refine Ev.out ?_
  repeat' (first | ((with_reducible refine Ev.mk ?_); conv => whnf) | (with_reducible refine And.intro ?_ ?_) | (intro h))
  all_goals (try simp only [decide_eq_true_eq, decide_eq_false_iff_not, beq_iff_eq, bne_iff_ne, beq_eq_false_iff_ne, bne_eq_false_iff_eq, Int.toNat_natCast, ge_iff_le, gt_iff_lt, Bool.not_eq_true', Bool.not_eq_false', Int.not_lt, Int.not_le, ne_eq] at *)
  all_goals (try dsimp only [Ty.den, Ty.dflt, TxT] at *)
  all_goals (try simp only [eq4, ne4, eq3, ne3, eq2, ne2, Prod.eta, List.length_cons, List.length_nil, List.length_append, Nat.zero_add] at *)
  all_goals (try simp (disch := omega) only [wrap64] at *)
  all_goals try first | exact leafDraw (by kernel_rfl) | exact Leaf.mk trivial | (refine Leaf.mk ?_; omega) | (refine Leaf.mk ?_; unfold maxLen; omega)
  refine LoopVC.on (fun i : Nat => [(3, .i .i64 ((i : Int) + 1))]) (fun _ => []) (fun i => (i + 1 ≤ l.length ∨ i = 0) ∧ ∀ j, j < i → l.getD j [] < l.getD (j + 1) []) (fun i => l.length - i) 0 rfl ⟨.inr rfl, fun j hj => by omega⟩ ?_
  intro i ⟨hi, ha⟩
  repeat' (first | ((with_reducible refine Ev.mk ?_); conv => whnf) | (with_reducible refine And.intro ?_ ?_) | (intro h))
  all_goals (try simp only [decide_eq_true_eq, decide_eq_false_iff_not, beq_iff_eq, bne_iff_ne, beq_eq_false_iff_ne, bne_eq_false_iff_eq, Int.toNat_natCast, ge_iff_le, gt_iff_lt, Bool.not_eq_true', Bool.not_eq_false', Int.not_lt, Int.not_le, ne_eq] at *)
  all_goals (try dsimp only [Ty.den, Ty.dflt, TxT] at *)
  all_goals (try simp only [eq4, ne4, eq3, ne3, eq2, ne2, Prod.eta, List.length_cons, List.length_nil, List.length_append, Nat.zero_add] at *)
  all_goals (try simp (disch := omega) only [wrap64] at *)
  all_goals try first | exact leafDraw (by kernel_rfl) | exact Leaf.mk trivial | (refine Leaf.mk ?_; omega) | (refine Leaf.mk ?_; unfold maxLen; omega)
  all_goals try rw [show ((i : Int) + 1 - 1).toNat = i by omega, show ((i : Int) + 1).toNat = i + 1 by omega] at *
  · refine Leaf.mk (ret1 (show false = setK l from setK_no (i := i + 1) (by omega) (by omega) ?_))
    assumption
  · refine Leaf.mk (Exists.intro (i + 1) ⟨rfl, ⟨by omega, fun j hj => ?_⟩, by omega⟩)
    rcases Nat.lt_or_ge j i with hji | hji
    · exact ha j hji
    · obtain rfl : j = i := by omega
      exact sless_iff.1 (by assumption)
  · exact Leaf.mk (ret1 (show true = setK l from setK_yes fun j hj => ha j (by omega)))
def sIndexFuncX : PSpec := ⟨[.d (.slice TxnT), .lam TxnT .bool], [⟨false, [.d (.int .i64)]⟩], fun _ => True, fun x => ((idxF x.2.1 x.1 0, ()), ())⟩
theorem fIndexFuncX : FnOk Try.prog 157 := ⟨_, Try.func157, by decide, rfl⟩
theorem pIndexFuncX : PSound Try.prog 157 sIndexFuncX := by
  refine psound (T := tab) (S := (spOf [])) (keep := k157) (by kernel_rfl) tabOk spNil (by kernel_rfl) Try.func157 (by kernel_rfl) (by decide) fun xs hg hp => ?_
  obtain ⟨xs, p, ⟨⟩⟩ := xs
  obtain ⟨⟨hl, -⟩, -⟩ := hg
  change List Txn at xs
  change Txn → Bool at p
  have hl := len63 hl
  clear hp
  show vfun tab _ k157 Try.f157 [.sl TxnT xs, .lam TxnT .bool p] [] _
  refine Ev.out ?_
  repeat' (first | ((with_reducible refine Ev.mk ?_); conv => whnf) | (with_reducible refine And.intro ?_ ?_) | (intro h))
  refine LoopVC.on (fun i : Nat => [(8, .i .i64 i)]) (fun _ => []) (fun i => i ≤ xs.length ∧ idxF p xs 0 = idxF p (xs.drop i) i) (fun i => xs.length - i) 0 rfl ⟨by omega, by simp⟩ ?_
  intro i ⟨hi, he⟩
  repeat' (first | ((with_reducible refine Ev.mk ?_); conv => whnf) | (with_reducible refine And.intro ?_ ?_) | (intro h))
  all_goals (try simp only [decide_eq_true_eq, decide_eq_false_iff_not, beq_iff_eq, bne_iff_ne, beq_eq_false_iff_ne, bne_eq_false_iff_eq, Int.toNat_natCast, ge_iff_le, gt_iff_lt, Bool.not_eq_true', Bool.not_eq_false', Int.not_lt, Int.not_le, ne_eq] at *)
  all_goals (try dsimp only [Ty.den, Ty.dflt, TxnT] at *)
  all_goals (try simp only [eq4, ne4, eq3, ne3, eq2, ne2, Prod.eta, List.length_cons, List.length_nil, List.length_append, Nat.zero_add] at *)
  all_goals (try simp (disch := omega) only [wrap64] at *)
  all_goals try first | exact leafDraw (by kernel_rfl) | exact Leaf.mk trivial | (refine Leaf.mk ?_; omega) | (refine Leaf.mk ?_; unfold maxLen; omega)
  all_goals first
    | (rw [drop_end (by omega)] at he; exact Leaf.mk (ret1 he.symm))
    | (rw [drop_at txn0 (by omega), idxF, if_pos (by assumption)] at he; exact Leaf.mk (ret1 he.symm))
    | (rw [drop_at txn0 (by omega), idxF, if_neg (by simp_all)] at he; exact Leaf.mk ⟨i + 1, rfl, ⟨by omega, he⟩, by omega⟩)
def sContainsX : PSpec := ⟨[.d (.slice TxnT), .lam TxnT .bool], [⟨false, [.d .bool]⟩], fun _ => True, fun x => ((List.any x.1 x.2.1, ()), ())⟩
theorem fContainsX : FnOk Try.prog 109 := ⟨_, Try.func109, by decide, rfl⟩
theorem pContainsX : PSound Try.prog 109 sContainsX := by
  refine psound (T := tab) (S := (spOf [(157, sIndexFuncX.spec (lsOf []))])) (keep := k109) (by kernel_rfl) tabOk (spCons (pOk pIndexFuncX fIndexFuncX (by decide) lsNil) spNil) (by kernel_rfl) Try.func109 (by kernel_rfl) (by decide) fun xs hg hp => ?_
  obtain ⟨xs, p, ⟨⟩⟩ := xs
  change List Txn at xs
  change Txn → Bool at p
  show vfun tab _ k109 Try.f109 [.sl TxnT xs, .lam TxnT .bool p] [] _
  refine Ev.out ?_
  repeat' (first | ((with_reducible refine Ev.mk ?_); conv => whnf) | (with_reducible refine And.intro ?_ ?_) | (intro h))
  · exact Leaf.mk trivial
  · exact Leaf.mk (ret1 (idxF_any xs 0))
def badX (next : Int) (x : Txn) : Bool := !inB x.1 || !inB x.2.1 || decide (next ≤ x.1)
theorem badX_1 {nx : Int} {x : Txn} (h : inB x.1 = false) : badX nx x = true := by unfold badX; rw [h]; rfl
theorem badX_2 {nx : Int} {x : Txn} (h : inB x.2.1 = false) : badX nx x = true := by unfold badX; rw [h]; simp
theorem badX_3 {nx : Int} {x : Txn} (h : nx ≤ x.1) : badX nx x = true := by unfold badX; rw [decide_eq_true h, Bool.or_true]
theorem badX_4 {nx : Int} {x : Txn} (h1 : inB x.1 = true) (h2 : inB x.2.1 = true) (h3 : x.1 < nx) : badX nx x = false := by unfold badX; rw [h1, h2, decide_eq_false (by omega)]; rfl
def lBad : LSpec := ⟨TxnT, .bool, [.bx TabT], fun x c => badX c.1.1 x⟩
theorem fBad : FnOk Try.prog 105 := ⟨_, Try.func105, by decide, rfl⟩
theorem pBad : PSound Try.prog 105 lBad.p := by
  refine psound (T := tab) (S := (spOf [(106, sTIn.spec (lsOf []))])) (keep := k105) (by kernel_rfl) tabOk (spCons (pOk pTIn fTIn (by decide) lsNil) spNil) (by kernel_rfl) Try.func105 (by kernel_rfl) (by decide) fun xs hg hp => ?_
  obtain ⟨⟨id, st, ks⟩, ⟨nx, l⟩, ⟨⟩⟩ := xs
  show vfun tab _ k105 Try.f105 [.agg [.i .i64 id, .i .i64 st, .sl .str ks], .rp [.i .i64 nx, .sl TxnT l]] [] _
  refine Ev.out ?_
  repeat' (first | ((with_reducible refine Ev.mk ?_); conv => whnf) | (with_reducible refine And.intro ?_ ?_) | (intro h))
  all_goals (try simp only [decide_eq_true_eq, decide_eq_false_iff_not, beq_iff_eq, bne_iff_ne, beq_eq_false_iff_ne, bne_eq_false_iff_eq, Int.toNat_natCast, ge_iff_le, gt_iff_lt, Bool.not_eq_true', Bool.not_eq_false', Int.not_lt, Int.not_le, ne_eq] at *)
  all_goals (try dsimp only [Ty.den, Ty.dflt, TxnT, sTIn] at *)
  all_goals (try simp only [eq4, ne4, eq3, ne3, eq2, ne2, Prod.eta, List.length_cons, List.length_nil, List.length_append, Nat.zero_add] at *)
  all_goals (try simp (disch := omega) only [wrap64] at *)
  all_goals try first | exact leafDraw (by kernel_rfl) | exact Leaf.mk trivial | (refine Leaf.mk ?_; omega) | (refine Leaf.mk ?_; unfold maxLen; omega)
  all_goals exact Leaf.mk (ret1 (show _ = badX nx (id, st, ks) from by simp [badX, *]))
def longX (x : Txn) : Bool := x.2.2.any fun k => decide (16 < k.length)
theorem fLong1 : FnOk Try.prog 108 := ⟨_, Try.func108, by decide, rfl⟩
noncomputable def iLong1 : Eng.Spec := inl tab (spOf []) k108 Try.f108
theorem pLong1 : SpecOk Try.prog 108 iLong1 := inl_ok tabOk spNil (by kernel_rfl) Try.func108 (by kernel_rfl)
theorem fIndexFuncK : FnOk Try.prog 142 := ⟨_, Try.func142, by decide, rfl⟩
noncomputable def iIndexFuncK : Eng.Spec := inl tab (spOf [(108, iLong1)]) k142 Try.f142
theorem pIndexFuncK : SpecOk Try.prog 142 iIndexFuncK := inl_ok tabOk (spCons (.inl ⟨pLong1, fLong1⟩) spNil) (by kernel_rfl) Try.func142 (by kernel_rfl)
theorem fContainsFuncK : FnOk Try.prog 85 := ⟨_, Try.func85, by decide, rfl⟩
noncomputable def iContainsFuncK : Eng.Spec := inl tab (spOf [(142, iIndexFuncK)]) k85 Try.f85
theorem pContainsFuncK : SpecOk Try.prog 85 iContainsFuncK := inl_ok tabOk (spCons (.inl ⟨pIndexFuncK, fIndexFuncK⟩) spNil) (by kernel_rfl) Try.func85 (by kernel_rfl)
def lLong : LSpec := ⟨TxnT, .bool, [], fun x c => longX x⟩
theorem fLong : FnOk Try.prog 107 := ⟨_, Try.func107, by decide, rfl⟩
theorem pLong : PSound Try.prog 107 lLong.p := by
  refine psound (T := tab) (S := (spOf [(85, iContainsFuncK)])) (keep := k107) (by kernel_rfl) tabOk (spCons (.inl ⟨pContainsFuncK, fContainsFuncK⟩) spNil) (by kernel_rfl) Try.func107 (by kernel_rfl) (by decide) fun xs hg hp => ?_
  obtain ⟨⟨id, st, ks⟩, ⟨⟩⟩ := xs
  obtain ⟨⟨-, -, hl, -⟩, -⟩ := hg
  change List (List UInt8) at ks
  change ks.length ≤ _ at hl
  have hl := len63 hl
  show vfun tab _ k107 Try.f107 [.agg [.i .i64 id, .i .i64 st, .sl .str ks]] [] _
  refine Ev.out ?_
  repeat' (first | ((with_reducible refine Ev.mk ?_); conv => whnf) | (with_reducible refine And.intro ?_ ?_) | (intro h))
  all_goals (try simp only [decide_eq_true_eq, decide_eq_false_iff_not, beq_iff_eq, bne_iff_ne, beq_eq_false_iff_ne, bne_eq_false_iff_eq, Int.toNat_natCast, ge_iff_le, gt_iff_lt, Bool.not_eq_true', Bool.not_eq_false', Int.not_lt, Int.not_le, ne_eq] at *)
  all_goals (try dsimp only [Ty.den, Ty.dflt, TxnT] at *)
  all_goals (try simp only [eq4, ne4, eq3, ne3, eq2, ne2, Prod.eta, List.length_cons, List.length_nil, List.length_append, Nat.zero_add] at *)
  all_goals (try simp (disch := omega) only [wrap64] at *)
  all_goals try first | exact leafDraw (by kernel_rfl) | exact Leaf.mk trivial | (refine Leaf.mk ?_; omega) | (refine Leaf.mk ?_; unfold maxLen; omega)
  refine LoopVC.on (fun i : Nat => [(8, .i .i64 i)]) (fun _ => []) (fun i => i ≤ ks.length ∧ longX (id, st, ks) = (ks.drop i).any fun k => decide (16 < k.length)) (fun i => ks.length - i) 0 rfl ⟨by omega, rfl⟩ ?_
  intro i ⟨hi, he⟩
  repeat' (first | ((with_reducible refine Ev.mk ?_); conv => whnf) | (with_reducible refine And.intro ?_ ?_) | (intro h))
  all_goals (try simp only [decide_eq_true_eq, decide_eq_false_iff_not, beq_iff_eq, bne_iff_ne, beq_eq_false_iff_ne, bne_eq_false_iff_eq, Int.toNat_natCast, ge_iff_le, gt_iff_lt, Bool.not_eq_true', Bool.not_eq_false', Int.not_lt, Int.not_le, ne_eq] at *)
  all_goals (try dsimp only [Ty.den, Ty.dflt, TxnT] at *)
  all_goals (try simp only [eq4, ne4, eq3, ne3, eq2, ne2, Prod.eta, List.length_cons, List.length_nil, List.length_append, Nat.zero_add] at *)
  all_goals (try simp (disch := omega) only [wrap64] at *)
  all_goals try first | exact leafDraw (by kernel_rfl) | exact Leaf.mk trivial | (refine Leaf.mk ?_; omega) | (refine Leaf.mk ?_; unfold maxLen; omega)
  · refine Leaf.mk (ret1 (show decide ((0 : Int) ≤ i) = longX (id, st, ks) from ?_))
    rw [he, any_hit [] (by omega) (decide_eq_true (by omega)), decide_eq_true_eq]; omega
  · rw [any_skip [] (by omega) (decide_eq_false (by omega))] at he
    exact Leaf.mk (Exists.intro (i + 1) ⟨rfl, ⟨by omega, he⟩, by omega⟩)
  · rw [any_end (by omega)] at he
    exact Leaf.mk (ret1 (show decide ((0 : Int) ≤ -1) = longX (id, st, ks) from by rw [he]; rfl))
def okX (l : List Txn) (j : Nat) : Bool := setK (l.getD j txn0).2.2 && (decide (j = 0) || (decide ((l.getD (j - 1) txn0).1 < (l.getD j txn0).1) && decide ((l.getD (j - 1) txn0).2.1 ≤ (l.getD j txn0).2.1)))
def ordX (l : List Txn) : Bool := decide (∀ j, j < l.length → okX l j = true)
theorem ordX_no {l : List Txn} {j : Nat} (h : j < l.length) (hn : okX l j = false) : ordX l = false := decide_eq_false fun hc => by rw [hc j h] at hn; cases hn
theorem ordX_yes {l : List Txn} (h : ∀ j, j < l.length → okX l j = true) : ordX l = true := decide_eq_true h
theorem okX_bad1 {l : List Txn} {i : Nat} (h : setK (l.getD i txn0).2.2 = false) : okX l i = false := by unfold okX; rw [h]; rfl
theorem okX_bad2 {l : List Txn} {i : Nat} (h0 : 0 < i) (h : (l.getD i txn0).1 ≤ (l.getD (i - 1) txn0).1 ∨ (l.getD i txn0).2.1 < (l.getD (i - 1) txn0).2.1) : okX l i = false := by
  apply Bool.eq_false_iff.2
  intro hc
  simp only [okX, Bool.and_eq_true, Bool.or_eq_true, decide_eq_true_eq] at hc
  omega
theorem okX_good {l : List Txn} {i : Nat} (hs : setK (l.getD i txn0).2.2 = true) (h : i = 0 ∨ ((l.getD (i - 1) txn0).1 < (l.getD i txn0).1 ∧ (l.getD (i - 1) txn0).2.1 ≤ (l.getD i txn0).2.1)) : okX l i = true := by
  simp only [okX, Bool.and_eq_true, Bool.or_eq_true, decide_eq_true_eq]
  exact ⟨hs, h⟩
def sOrdX : PSpec := ⟨[.d (.slice TxnT)], [⟨false, [.d .bool]⟩], fun _ => True, fun x => ((ordX x.1, ()), ())⟩
theorem okX_next {l : List Txn} {i : Nat} (ha : ∀ j, j < i → okX l j = true) (h : okX l i = true) : ∀ j, j < i + 1 → okX l j = true := fun j hj => by
  rcases Nat.lt_or_ge j i with h1 | h1
  · exact ha j h1
  · obtain rfl : j = i := by omega
    exact h
theorem fOrdX : FnOk Try.prog 110 := ⟨_, Try.func110, by decide, rfl⟩
theorem pOrdX : PSound Try.prog 110 sOrdX := by
  refine psound (T := tab) (S := (spOf [(158, sSetK.spec (lsOf []))])) (keep := k110) (by kernel_rfl) tabOk (spCons (pOk pSetK fSetK (by decide) lsNil) spNil) (by kernel_rfl) Try.func110 (by kernel_rfl) (by decide) fun xs hg hp => ?_
  obtain ⟨l, ⟨⟩⟩ := xs
  obtain ⟨⟨hl, -⟩, -⟩ := hg
  change List Txn at l
  change l.length ≤ _ at hl
  have hl := len63 hl
  clear hp
  show vfun tab _ k110 Try.f110 [.sl TxnT l] [] _
  refine Ev.out ?_
  repeat' (first | ((with_reducible refine Ev.mk ?_); conv => whnf) | (with_reducible refine And.intro ?_ ?_) | (intro h))
  all_goals (try simp only [decide_eq_true_eq, decide_eq_false_iff_not, beq_iff_eq, bne_iff_ne, beq_eq_false_iff_ne, bne_eq_false_iff_eq, Int.toNat_natCast, ge_iff_le, gt_iff_lt, Bool.not_eq_true', Bool.not_eq_false', Int.not_lt, Int.not_le, ne_eq] at *)
  all_goals (try dsimp only [Ty.den, Ty.dflt, TxnT] at *)
  all_goals (try simp only [eq4, ne4, eq3, ne3, eq2, ne2, Prod.eta, List.length_cons, List.length_nil, List.length_append, Nat.zero_add] at *)
  all_goals (try simp (disch := omega) only [wrap64] at *)
  all_goals try first | exact leafDraw (by kernel_rfl) | exact Leaf.mk trivial | (refine Leaf.mk ?_; omega) | (refine Leaf.mk ?_; unfold maxLen; omega)
  refine LoopVC.on (fun i : Nat => [(7, .i .i64 i)]) (fun _ => []) (fun i => i ≤ l.length ∧ ∀ j, j < i → okX l j = true) (fun i => l.length - i) 0 rfl ⟨by omega, fun j hj => by omega⟩ ?_
  intro i ⟨hi, ha⟩
  repeat' (first | ((with_reducible refine Ev.mk ?_); conv => whnf) | (with_reducible refine And.intro ?_ ?_) | (intro h))
  all_goals (try simp only [decide_eq_true_eq, decide_eq_false_iff_not, beq_iff_eq, bne_iff_ne, beq_eq_false_iff_ne, bne_eq_false_iff_eq, Int.toNat_natCast, ge_iff_le, gt_iff_lt, Bool.not_eq_true', Bool.not_eq_false', Int.not_lt, Int.not_le, ne_eq] at *)
  all_goals (try dsimp only [Ty.den, Ty.dflt, TxnT, sSetK] at *)
  all_goals (try simp only [eq4, ne4, eq3, ne3, eq2, ne2, Prod.eta, List.length_cons, List.length_nil, List.length_append, Nat.zero_add] at *)
  all_goals (try simp (disch := omega) only [wrap64] at *)
  all_goals try first | exact leafDraw (by kernel_rfl) | exact Leaf.mk trivial | (refine Leaf.mk ?_; omega) | (refine Leaf.mk ?_; unfold maxLen; omega)
  all_goals try rw [show ((i : Int) - 1).toNat = i - 1 by omega] at *
  all_goals first
    | exact Leaf.mk (ret1 (show false = ordX l from (ordX_no (j := i) (by omega) (okX_bad1 ‹_›)).symm))
    | exact Leaf.mk (ret1 (show false = ordX l from (ordX_no (j := i) (by omega) (okX_bad2 (by omega) (.inl ‹_›))).symm))
    | exact Leaf.mk (ret1 (show false = ordX l from (ordX_no (j := i) (by omega) (okX_bad2 (by omega) (.inr ‹_›))).symm))
    | exact Leaf.mk (Exists.intro (i + 1) ⟨rfl, ⟨by omega, okX_next ha (okX_good ‹_› (.inr ⟨‹_›, ‹_›⟩))⟩, by omega⟩)
    | exact Leaf.mk (Exists.intro (i + 1) ⟨rfl, ⟨by omega, okX_next ha (okX_good ‹_› (.inl (by omega)))⟩, by omega⟩)
    | exact Leaf.mk (ret1 (show true = ordX l from (ordX_yes fun j hj => ha j (by omega)).symm))
def check23 (t : Tabl) : Int := if inB t.1 = false ∨ t.2.any (badX t.1) = true then 9 else if 8 < t.2.length then 16 else if ordX t.2 = false then 12 else if t.2.any longX = true then 5 else 0
def sCheck23 : PSpec := ⟨[.d TabT], [⟨false, [.d (.int .i64)]⟩], fun _ => True, fun x => ((check23 x.1, ()), ())⟩
def sCheck23R : PSpec := sCheck23
theorem check23_a {nx : Int} {l : List Txn} (h : inB nx = false) : 9 = check23 (nx, l) := by rw [check23, if_pos (.inl h)]
theorem check23_b {nx : Int} {l : List Txn} (h : l.any (badX nx) = true) : 9 = check23 (nx, l) := by rw [check23, if_pos (.inr h)]
theorem check23_c {nx : Int} {l : List Txn} (h1 : inB nx = true) (h2 : l.any (badX nx) = false) : check23 (nx, l) = if 8 < l.length then 16 else if ordX l = false then 12 else if l.any longX = true then 5 else 0 := by
  rw [check23, if_neg]
  intro hc
  rcases hc with hc | hc
  · have hc : inB nx = false := hc
    rw [h1] at hc; cases hc
  · have hc : l.any (badX nx) = true := hc
    rw [h2] at hc; cases hc
theorem fCheck23 : FnOk Try.prog 40 := ⟨_, Try.func40, by decide, rfl⟩
theorem pCheck23 : PSound Try.prog 40 sCheck23 := by
  refine psound (T := tab) (S := (spOf [(106, sTIn.spec (lsOf [(105, lBad), (107, lLong)])), (109, sContainsX.spec (lsOf [(105, lBad), (107, lLong)])), (110, sOrdX.spec (lsOf [(105, lBad), (107, lLong)]))])) (keep := k40) (by kernel_rfl) tabOk (spCons (pOk pTIn fTIn (by decide) ((lsCons ⟨pBad, fBad⟩ (lsCons ⟨pLong, fLong⟩ lsNil)))) (spCons (pOk pContainsX fContainsX (by decide) ((lsCons ⟨pBad, fBad⟩ (lsCons ⟨pLong, fLong⟩ lsNil)))) (spCons (pOk pOrdX fOrdX (by decide) ((lsCons ⟨pBad, fBad⟩ (lsCons ⟨pLong, fLong⟩ lsNil)))) spNil))) (by kernel_rfl) Try.func40 (by kernel_rfl) (by decide) fun xs hg hp => ?_
  obtain ⟨⟨nx, l⟩, ⟨⟩⟩ := xs
  obtain ⟨⟨-, hl, -⟩, -⟩ := hg
  change List Txn at l
  change Int at nx
  change l.length ≤ _ at hl
  have hl := len63 hl
  clear hp
  show vfun tab _ k40 Try.f40 [.agg [.i .i64 nx, .sl TxnT l]] [] _
  refine Ev.out ?_
  repeat' (first | ((with_reducible refine Ev.mk ?_); conv => whnf) | (with_reducible refine And.intro ?_ ?_) | (intro h))
  all_goals (try simp only [decide_eq_true_eq, decide_eq_false_iff_not, beq_iff_eq, bne_iff_ne, beq_eq_false_iff_ne, bne_eq_false_iff_eq, Int.toNat_natCast, ge_iff_le, gt_iff_lt, Bool.not_eq_true', Bool.not_eq_false', Int.not_lt, Int.not_le, ne_eq] at *)
  all_goals (try dsimp only [Ty.den, Ty.dflt, TxnT, sTIn, sContainsX, sOrdX] at *)
  all_goals (try simp only [eq4, ne4, eq3, ne3, eq2, ne2, Prod.eta, List.length_cons, List.length_nil, List.length_append, Nat.zero_add] at *)
  all_goals (try simp (disch := omega) only [wrap64] at *)
  all_goals try first | exact leafDraw (by kernel_rfl) | exact Leaf.mk trivial | (refine Leaf.mk ?_; omega) | (refine Leaf.mk ?_; unfold maxLen; omega)
  · exact Leaf.mk (ret1 (check23_a (l := l) h))
  · exact Leaf.mk (ret1 (check23_b (nx := nx) ‹_›))
  all_goals
    refine Leaf.mk (ret1 (show _ = check23 (nx, l) from ?_))
    rw [check23_c ‹inB nx = true› (show l.any (badX nx) = false from ‹_›)]
  · rw [if_pos (by omega)]
  · rw [if_neg (by omega), if_pos ‹_›]
  · rw [if_neg (by omega), if_neg (by simp_all), if_pos (show l.any longX = true from ‹_›)]
  · rw [if_neg (by omega), if_neg (by simp_all), if_neg (by have h9 : l.any longX = false := ‹_›; rw [h9]; simp)]
theorem fCheck23R : FnOk Try.prog 41 := ⟨_, Try.func41, by decide, rfl⟩
theorem pCheck23R : PSound Try.prog 41 sCheck23R := by
  refine psound (T := tab) (S := (spOf [(111, sTInR.spec (lsOf [])), (112, sSetKR.spec (lsOf []))])) (keep := k41) (by kernel_rfl) tabOk (spCons (pOk pTInR fTInR (by decide) lsNil) (spCons (pOk pSetKR fSetKR (by decide) lsNil) spNil)) (by kernel_rfl) Try.func41 (by kernel_rfl) (by decide) fun xs hg hp => ?_
  obtain ⟨⟨nx, l⟩, ⟨⟩⟩ := xs
  obtain ⟨⟨-, hl, hgl⟩, -⟩ := hg
  change List Txn at l
  change Int at nx
  change l.length ≤ _ at hl
  have hl := len63 hl
  clear hp
  show vfun tab _ k41 Try.f41 [.agg [.i .i64 nx, .sl TxnT l]] [] _
  refine Ev.out ?_
  repeat' (first | ((with_reducible refine Ev.mk ?_); conv => whnf) | (with_reducible refine And.intro ?_ ?_) | (intro h))
  all_goals (try simp only [decide_eq_true_eq, decide_eq_false_iff_not, beq_iff_eq, bne_iff_ne, beq_eq_false_iff_ne, bne_eq_false_iff_eq, Int.toNat_natCast, ge_iff_le, gt_iff_lt, Bool.not_eq_true', Bool.not_eq_false', Int.not_lt, Int.not_le, ne_eq] at *)
  all_goals (try dsimp only [Ty.den, Ty.dflt, TxnT, sTInR, sTIn, sSetKR, sSetK] at *)
  all_goals (try simp only [eq4, ne4, eq3, ne3, eq2, ne2, Prod.eta, List.length_cons, List.length_nil, List.length_append, Nat.zero_add] at *)
  all_goals (try simp (disch := omega) only [wrap64] at *)
  all_goals try first | exact leafDraw (by kernel_rfl) | exact Leaf.mk trivial | (refine Leaf.mk ?_; omega) | (refine Leaf.mk ?_; unfold maxLen; omega)
  · exact Leaf.mk (ret1 (check23_a (l := l) h))
  refine LoopVC.on (fun i : Nat => [(3, .i .i64 i)]) (fun _ => []) (fun i => i ≤ l.length ∧ l.any (badX nx) = (l.drop i).any (badX nx)) (fun i => l.length - i) 0 rfl ⟨by omega, rfl⟩ ?_
  intro i ⟨hi, he⟩
  repeat' (first | ((with_reducible refine Ev.mk ?_); conv => whnf) | (with_reducible refine And.intro ?_ ?_) | (intro h))
  all_goals (try simp only [decide_eq_true_eq, decide_eq_false_iff_not, beq_iff_eq, bne_iff_ne, beq_eq_false_iff_ne, bne_eq_false_iff_eq, Int.toNat_natCast, ge_iff_le, gt_iff_lt, Bool.not_eq_true', Bool.not_eq_false', Int.not_lt, Int.not_le, ne_eq] at *)
  all_goals (try dsimp only [Ty.den, Ty.dflt, TxnT, sTInR, sTIn, sSetKR, sSetK] at *)
  all_goals (try simp only [eq4, ne4, eq3, ne3, eq2, ne2, Prod.eta, List.length_cons, List.length_nil, List.length_append, Nat.zero_add] at *)
  all_goals (try simp (disch := omega) only [wrap64] at *)
  all_goals try first | exact leafDraw (by kernel_rfl) | exact Leaf.mk trivial | (refine Leaf.mk ?_; omega) | (refine Leaf.mk ?_; unfold maxLen; omega)
  all_goals first
    | (rw [any_hit txn0 (by omega) (badX_1 ‹_›)] at he; exact Leaf.mk (ret1 (check23_b he)))
    | (rw [any_hit txn0 (by omega) (badX_2 ‹_›)] at he; exact Leaf.mk (ret1 (check23_b he)))
    | (rw [any_hit txn0 (by omega) (badX_3 ‹_›)] at he; exact Leaf.mk (ret1 (check23_b he)))
    | (rw [any_skip txn0 (by omega) (badX_4 ‹_› ‹_› ‹_›)] at he; exact Leaf.mk (Exists.intro (i + 1) ⟨rfl, ⟨by omega, he⟩, by omega⟩))
    | skip
  all_goals
    rw [any_end (by omega)] at he
    have hC := check23_c (nx := nx) (l := l) ‹_› he
  · refine Leaf.mk (ret1 (show 16 = check23 (nx, l) from ?_))
    rw [hC, if_pos (by omega)]
  rw [if_neg (show ¬ 8 < l.length by omega)] at hC
  clear he
  refine LoopVC.on (fun i : Nat => [(5, .i .i64 i)]) (fun _ => []) (fun i => i ≤ l.length ∧ ∀ j, j < i → okX l j = true) (fun i => l.length - i) 0 rfl ⟨by omega, fun j hj => by omega⟩ ?_
  clear hi
  intro i ⟨hi, ha⟩
  repeat' (first | ((with_reducible refine Ev.mk ?_); conv => whnf) | (with_reducible refine And.intro ?_ ?_) | (intro h))
  all_goals (try simp only [decide_eq_true_eq, decide_eq_false_iff_not, beq_iff_eq, bne_iff_ne, beq_eq_false_iff_ne, bne_eq_false_iff_eq, Int.toNat_natCast, ge_iff_le, gt_iff_lt, Bool.not_eq_true', Bool.not_eq_false', Int.not_lt, Int.not_le, ne_eq] at *)
  all_goals (try dsimp only [Ty.den, Ty.dflt, TxnT, sTInR, sTIn, sSetKR, sSetK] at *)
  all_goals (try simp only [eq4, ne4, eq3, ne3, eq2, ne2, Prod.eta, List.length_cons, List.length_nil, List.length_append, Nat.zero_add] at *)
  all_goals (try simp (disch := omega) only [wrap64] at *)
  all_goals try first | exact leafDraw (by kernel_rfl) | exact Leaf.mk trivial | (refine Leaf.mk ?_; omega) | (refine Leaf.mk ?_; unfold maxLen; omega)
  all_goals try rw [show ((i : Int) - 1).toNat = i - 1 by omega] at *
  all_goals first
    | (refine Leaf.mk (ret1 (show 12 = check23 (nx, l) from ?_))
       rw [hC, if_pos]
       first
       | exact ordX_no (j := i) (by omega) (okX_bad1 ‹_›)
       | exact ordX_no (j := i) (by omega) (okX_bad2 (by omega) (.inl ‹_›))
       | exact ordX_no (j := i) (by omega) (okX_bad2 (by omega) (.inr ‹_›)))
    | exact Leaf.mk (Exists.intro (i + 1) ⟨rfl, ⟨by omega, okX_next ha (okX_good ‹_› (.inr ⟨‹_›, ‹_›⟩))⟩, by omega⟩)
    | exact Leaf.mk (Exists.intro (i + 1) ⟨rfl, ⟨by omega, okX_next ha (okX_good ‹_› (.inl (by omega)))⟩, by omega⟩)
    | skip
  rw [if_neg (by rw [ordX_yes fun j hj => ha j (by omega)]; simp)] at hC
  clear ha hi
  have hks : ∀ j, j < l.length → (l.getD j txn0).2.2.length ≤ 9223372036854775807 := fun j hj => len63 (hgl _ (getD_mem txn0 hj)).2.2.1
  refine LoopVC.on (fun i : Nat => [(7, .i .i64 i)]) (fun _ => []) (fun i => i ≤ l.length ∧ l.any longX = (l.drop i).any longX) (fun i => l.length - i) 0 rfl ⟨by omega, rfl⟩ ?_
  intro i ⟨hi, he⟩
  repeat' (first | ((with_reducible refine Ev.mk ?_); conv => whnf) | (with_reducible refine And.intro ?_ ?_) | (intro h))
  all_goals (try simp only [decide_eq_true_eq, decide_eq_false_iff_not, beq_iff_eq, bne_iff_ne, beq_eq_false_iff_ne, bne_eq_false_iff_eq, Int.toNat_natCast, ge_iff_le, gt_iff_lt, Bool.not_eq_true', Bool.not_eq_false', Int.not_lt, Int.not_le, ne_eq] at *)
  all_goals (try dsimp only [Ty.den, Ty.dflt, TxnT, sTInR, sTIn, sSetKR, sSetK] at *)
  all_goals (try simp only [eq4, ne4, eq3, ne3, eq2, ne2, Prod.eta, List.length_cons, List.length_nil, List.length_append, Nat.zero_add] at *)
  all_goals (try simp (disch := omega) only [wrap64] at *)
  all_goals try first | exact leafDraw (by kernel_rfl) | exact Leaf.mk trivial | (refine Leaf.mk ?_; omega) | (refine Leaf.mk ?_; unfold maxLen; omega)
  all_goals try
    refine Leaf.mk (ret1 (show 0 = check23 (nx, l) from ?_))
    rw [any_end (by omega)] at he
    rw [hC, he]; rfl
  have hki := hks i (by omega)
  refine LoopVC.on (fun k : Nat => [(8, .i .i64 k)]) (fun _ => []) (fun k => k ≤ (l.getD i txn0).2.2.length ∧ longX (l.getD i txn0) = ((l.getD i txn0).2.2.drop k).any fun k => decide (16 < k.length)) (fun k => (l.getD i txn0).2.2.length - k) 0 rfl ⟨by omega, rfl⟩ ?_
  intro k ⟨hk, hl2⟩
  dsimp only [txn0] at hki hk hl2
  repeat' (first | ((with_reducible refine Ev.mk ?_); conv => whnf) | (with_reducible refine And.intro ?_ ?_) | (intro h))
  all_goals (try simp only [decide_eq_true_eq, decide_eq_false_iff_not, beq_iff_eq, bne_iff_ne, beq_eq_false_iff_ne, bne_eq_false_iff_eq, Int.toNat_natCast, ge_iff_le, gt_iff_lt, Bool.not_eq_true', Bool.not_eq_false', Int.not_lt, Int.not_le, ne_eq] at *)
  all_goals (try dsimp only [Ty.den, Ty.dflt, TxnT, sTInR, sTIn, sSetKR, sSetK] at *)
  all_goals (try simp only [eq4, ne4, eq3, ne3, eq2, ne2, Prod.eta, List.length_cons, List.length_nil, List.length_append, Nat.zero_add] at *)
  all_goals (try simp (disch := omega) only [wrap64] at *)
  all_goals try first | exact leafDraw (by kernel_rfl) | exact Leaf.mk trivial | (refine Leaf.mk ?_; omega) | (refine Leaf.mk ?_; unfold maxLen; omega)
  all_goals first
    | (refine Leaf.mk (ret1 (show 5 = check23 (nx, l) from ?_))
       rw [any_hit [] (by omega) (decide_eq_true (by omega))] at hl2
       rw [any_hit txn0 (by omega) hl2] at he
       rw [hC, he]; rfl)
    | (rw [any_skip [] (by omega) (decide_eq_false (by omega))] at hl2
       exact Leaf.mk (Exists.intro (k + 1) ⟨rfl, ⟨by dsimp only [txn0]; omega, hl2⟩, by dsimp only [txn0]; omega⟩))
    | (rw [any_end (by omega)] at hl2
       rw [any_skip txn0 (by omega) hl2] at he
       exact Leaf.mk (Exists.intro (i + 1) ⟨rfl, ⟨by omega, he⟩, by omega⟩))
    | skip
end Go.Proofs.Ytlfehkoklgmjjaa
