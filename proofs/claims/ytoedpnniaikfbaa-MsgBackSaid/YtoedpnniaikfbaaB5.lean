import Derived.Test.YtoedpnniaikfbaaB4



set_option linter.unusedVariables false
set_option linter.unusedSimpArgs false
namespace Go.Proofs.Ytoedpnniaikfbaa
open Go.Eng
abbrev RP : List RK := [.d BT, .d (.int .i64)]
def sNew : NSpec := ⟨[.d BT], RP, fun x => x.1.length ≤ 100000, fun x => (x.1, 0, ())⟩
theorem fNew : FnOk Try.prog 83 := ⟨_, Try.func83, by decide, rfl⟩
theorem pNew : NSound Try.prog 83 sNew := by
  refine nsound (T := tab) (S := (spOf [(128, sBClone.spec (lsOf []))])) (keep := k83) (by kernel_rfl) tabOk (spCons (pOk pBClone fBClone (by decide) lsNil) spNil) (by kernel_rfl) Try.func83 rfl (by kernel_rfl) (by decide) fun xs hg hp => ?_
  obtain ⟨xs, ⟨⟩⟩ := xs
  change List Int at xs
  change xs.length ≤ 100000 at hp
  show vfun tab _ k83 Try.f83 [.sl (.int .u8) xs] [] _
  refine Ev.out ?_
  repeat' (first | ((with_reducible refine Ev.mk ?_); conv => whnf) | (with_reducible refine And.intro ?_ ?_) | (intro h))
  all_goals (try simp only [decide_eq_true_eq, decide_eq_false_iff_not, beq_iff_eq, bne_iff_ne, beq_eq_false_iff_ne, bne_eq_false_iff_eq, Int.toNat_natCast, ge_iff_le, gt_iff_lt, Bool.not_eq_true', Bool.not_eq_false', Int.not_lt, Int.not_le, ne_eq] at *)
  all_goals (try dsimp only [Ty.den, Ty.dflt, BT, sBClone] at *)
  all_goals (try simp only [eq4, ne4, eq3, ne3, eq2, ne2, Prod.eta, List.length_cons, List.length_nil, List.length_append, Nat.zero_add] at *)
  all_goals (try simp (disch := omega) only [wrap64] at *)
  all_goals try first | exact leafDraw (by kernel_rfl) | exact Leaf.mk trivial | (refine Leaf.mk ?_; omega) | (refine Leaf.mk ?_; unfold maxLen; omega)
  · exact Leaf.mk rfl
def sState : MSpec := ⟨[.m RP], [⟨false, [.d (.int .i64)]⟩], fun _ => True, fun x => ((x.1.2.1, ()), x.1, ())⟩
theorem fState : FnOk Try.prog 129 := ⟨_, Try.func129, by decide, rfl⟩
theorem pState : SpecOk Try.prog 129 sState.spec := by
  refine mOk (T := tab) (S := (spOf [])) (keep := k129m) tabOk spNil (by kernel_rfl) Try.func129 (by kernel_rfl) (by kernel_rfl) (by decide) fun xs hg hp => ?_
  obtain ⟨⟨b, e, ⟨⟩⟩, ⟨⟩⟩ := xs
  change List Int at b
  change Int at e
  show vfunM tab _ k129m Try.f129 [.ptr 0 0] [(0, .box [.sl (.int .u8) b, .i .i64 e])] _
  refine Ev.out ?_
  repeat' (first | ((with_reducible refine Ev.mk ?_); conv => whnf) | (with_reducible refine And.intro ?_ ?_) | (intro h))
  all_goals exact Leaf.mk rfl
def sDone : MSpec := ⟨[.m RP], [⟨false, [.d (.int .i64)]⟩], fun _ => True, fun x => ((if ¬ x.1.2.1 = 0 then x.1.2.1 else if List.length (α := Int) x.1.1 = 0 then 0 else 4, ()), x.1, ())⟩
theorem txt_bd : ∀ (n : Nat) (xs acc : List Int) (p : Nat), xs.length ≤ n → 0 ≤ (txt xs acc p).2.1 ∧ (txt xs acc p).2.1 ≤ ((p + xs.length : Nat) : Int)
  | _, [], acc, p, _ => ⟨Int.le_refl _, by show (0 : Int) ≤ _; omega⟩
  | 0, _ :: _, _, _, h => by simp at h
  | n + 1, c :: r, acc, p, h => by
    simp only [List.length_cons] at h
    by_cases hc : c = 0
    · cases r with
      | nil => rw [txt_end hc]; exact ⟨Int.le_refl _, by show (0 : Int) ≤ _; omega⟩
      | cons d t =>
        simp only [List.length_cons] at h
        rw [txt_esc hc]
        split
        · simp only [List.length_cons]; omega
        · split
          · have := txt_bd n t (acc ++ [0]) (p + 2) (by omega)
            simp only [List.length_cons]; omega
          · exact ⟨Int.le_refl _, by show (0 : Int) ≤ _; omega⟩
    · rw [txt_ne hc]
      have := txt_bd n r (acc ++ [c]) (p + 1) (by omega)
      simp only [List.length_cons]; omega
theorem getText_bd (b : List Int) : 0 ≤ (getText b).2.1 ∧ (getText b).2.1 ≤ (b.length : Int) := by
  have := txt_bd b.length b [] 0 (Nat.le_refl _)
  simpa [getText] using this
theorem putR {α : Type} {u v : α × List Int × Int} (h : u = v) : (some ((u.1, ()), (u.2.1, u.2.2, ()), ()) : Option ((α × Unit) × (List Int × Int × Unit) × Unit)) = some ((v.1, ()), (v.2.1, v.2.2, ()), ()) := by rw [h]
theorem getSmall_bd {b : List Int} (hx : ∀ x ∈ b, Eng.Good (.int .u8) x) : (0 ≤ (getSmall b).2.1 ∧ (getSmall b).2.1 ≤ (b.length : Int)) ∧ 0 ≤ (getSmall b).1 := by
  have h0 := byte0 hx 0
  have hn := numB_bd ((b.take (b.getD 0 0 + 1).toNat).drop 1)
  unfold getSmall
  split
  · simp
  · split
    · simp
    · split
      · simp
      · split
        · simp
        · refine ⟨⟨?_, ?_⟩, hn.1⟩ <;> dsimp only <;> omega
def rdText (b : List Int) (e most : Int) : List UInt8 × List Int × Int :=
  if ¬ e = 0 then ([], b, e) else if ¬ (getText b).2.2 = 0 then ([], b, (getText b).2.2)
  else if (if 0 < most then most else 0) < ((getText b).1.length : Int) then ([], b, 5) else ((getText b).1, b.drop (getText b).2.1.toNat, 0)
def sText : MSpec := ⟨[.m RP, .d (.int .i64)], [⟨false, [.d .str]⟩], fun x => x.1.1.length ≤ 100000, fun x => (((rdText x.1.1 x.1.2.1 x.2.1).1, ()), ((rdText x.1.1 x.1.2.1 x.2.1).2.1, (rdText x.1.1 x.1.2.1 x.2.1).2.2, ()), ())⟩
theorem fText : FnOk Try.prog 84 := ⟨_, Try.func84, by decide, rfl⟩
theorem pText : SpecOk Try.prog 84 sText.spec := by
  refine mOk (T := tab) (S := (spOf [(129, sState.spec), (130, sGetText.spec (lsOf []))])) (keep := k84m) tabOk (spCons (.inl ⟨pState, fState⟩) (spCons (pOk pGetText fGetText (by decide) lsNil) spNil)) (by kernel_rfl) Try.func84 (by kernel_rfl) (by kernel_rfl) (by decide) fun xs hg hp => ?_
  obtain ⟨⟨b, e, ⟨⟩⟩, most, ⟨⟩⟩ := xs
  change List Int at b
  change Int at e
  change Int at most
  change b.length ≤ 100000 at hp
  show vfunM tab _ k84m Try.f84 [.ptr 0 0, .i .i64 most] [(0, .box [.sl (.int .u8) b, .i .i64 e])] _
  refine Ev.out ?_
  repeat' (first | ((with_reducible refine Ev.mk ?_); conv => whnf) | (with_reducible refine And.intro ?_ ?_) | (intro h))
  all_goals (try simp only [decide_eq_true_eq, decide_eq_false_iff_not, beq_iff_eq, bne_iff_ne, beq_eq_false_iff_ne, bne_eq_false_iff_eq, Int.toNat_natCast, ge_iff_le, gt_iff_lt, Bool.not_eq_true', Bool.not_eq_false', Int.not_lt, Int.not_le, ne_eq] at *)
  all_goals (try dsimp only [Ty.den, Ty.dflt, BT, sState, sGetText] at *)
  all_goals (try simp only [eq4, ne4, eq3, ne3, eq2, ne2, Prod.eta, List.length_cons, List.length_nil, List.length_append, Nat.zero_add] at *)
  all_goals (try simp (disch := omega) only [wrap64] at *)
  all_goals have hb := getText_bd b
  all_goals try first | exact leafDraw (by kernel_rfl) | exact Leaf.mk trivial | (refine Leaf.mk ?_; omega) | (refine Leaf.mk ?_; unfold maxLen; omega)
  · refine Leaf.mk (putR (u := ([], b, e)) (v := rdText b e most) ?_)
    rw [rdText, if_pos h]
  · rename_i h1 h2 h3
    refine Leaf.mk (putR (u := ([], b, 5)) (v := rdText b e most) ?_)
    rw [rdText, if_neg (fun hh => hh h1), if_neg (fun hh => hh h2), if_pos h3]
  · rename_i h1 h2 h3
    rw [List.take_length]
    refine Leaf.mk (putR (u := ((getText b).1, b.drop (getText b).2.1.toNat, e)) (v := rdText b e most) ?_)
    rw [rdText, if_neg (fun hh => hh h1), if_neg (fun hh => hh h2), if_neg (by omega), h1]
  · rename_i h1 h2
    refine Leaf.mk (putR (u := ([], b, (getText b).2.2)) (v := rdText b e most) ?_)
    rw [rdText, if_neg (fun hh => hh h1), if_pos h2]
def rdSmall (b : List Int) (e : Int) : Int × List Int × Int :=
  if ¬ e = 0 then (0, b, e) else if ¬ (getSmall b).2.2 = 0 then (0, b, (getSmall b).2.2)
  else if 1099511627776 < (getSmall b).1 then (0, b, 9) else ((getSmall b).1, b.drop (getSmall b).2.1.toNat, 0)
def sSmall : MSpec := ⟨[.m RP], [⟨false, [.d (.int .i64)]⟩], fun x => x.1.1.length ≤ 100000, fun x => (((rdSmall x.1.1 x.1.2.1).1, ()), ((rdSmall x.1.1 x.1.2.1).2.1, (rdSmall x.1.1 x.1.2.1).2.2, ()), ())⟩
theorem fSmall : FnOk Try.prog 85 := ⟨_, Try.func85, by decide, rfl⟩
theorem pSmall : SpecOk Try.prog 85 sSmall.spec := by
  refine mOk (T := tab) (S := (spOf [(129, sState.spec), (131, sGetSmall.spec (lsOf []))])) (keep := k85m) tabOk (spCons (.inl ⟨pState, fState⟩) (spCons (pOk pGetSmall fGetSmall (by decide) lsNil) spNil)) (by kernel_rfl) Try.func85 (by kernel_rfl) (by kernel_rfl) (by decide) fun xs hg hp => ?_
  obtain ⟨⟨b, e, ⟨⟩⟩, ⟨⟩⟩ := xs
  change List Int at b
  change Int at e
  change b.length ≤ 100000 at hp
  obtain ⟨⟨⟨hl, hx⟩, -⟩, -⟩ := hg
  clear hl
  change ∀ x ∈ b, Eng.Good (.int .u8) x at hx
  have hb0 := getSmall_bd hx
  clear hx
  show vfunM tab _ k85m Try.f85 [.ptr 0 0] [(0, .box [.sl (.int .u8) b, .i .i64 e])] _
  refine Ev.out ?_
  repeat' (first | ((with_reducible refine Ev.mk ?_); conv => whnf) | (with_reducible refine And.intro ?_ ?_) | (intro h))
  all_goals (try simp only [decide_eq_true_eq, decide_eq_false_iff_not, beq_iff_eq, bne_iff_ne, beq_eq_false_iff_ne, bne_eq_false_iff_eq, Int.toNat_natCast, ge_iff_le, gt_iff_lt, Bool.not_eq_true', Bool.not_eq_false', Int.not_lt, Int.not_le, ne_eq] at *)
  all_goals (try dsimp only [Ty.den, Ty.dflt, BT, sState, sGetSmall] at *)
  all_goals (try simp only [eq4, ne4, eq3, ne3, eq2, ne2, Prod.eta, List.length_cons, List.length_nil, List.length_append, Nat.zero_add] at *)
  all_goals (try simp (disch := omega) only [wrap64] at *)
  all_goals try first | exact leafDraw (by kernel_rfl) | exact Leaf.mk trivial | (refine Leaf.mk ?_; omega) | (refine Leaf.mk ?_; unfold maxLen; omega)
  · refine Leaf.mk (putR (u := (0, b, e)) (v := rdSmall b e) ?_)
    rw [rdSmall, if_pos h]
  · rename_i h1 h2 h3
    refine Leaf.mk (putR (u := (0, b, 9)) (v := rdSmall b e) ?_)
    rw [rdSmall, if_neg (fun hh => hh h1), if_neg (fun hh => hh h2), if_pos h3]
  · rename_i h1 h2 h3
    rw [List.take_length]
    refine Leaf.mk (putR (u := ((getSmall b).1, b.drop (getSmall b).2.1.toNat, e)) (v := rdSmall b e) ?_)
    rw [rdSmall, if_neg (fun hh => hh h1), if_neg (fun hh => hh h2), if_neg (by omega), h1]
  · rename_i h1 h2
    refine Leaf.mk (putR (u := (0, b, (getSmall b).2.2)) (v := rdSmall b e) ?_)
    rw [rdSmall, if_neg (fun hh => hh h1), if_pos h2]
end Go.Proofs.Ytoedpnniaikfbaa
