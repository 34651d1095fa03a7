import Derived.Test.YtbobjiaggngbmaaQ11
import Derived.Test.YtbobjiaggngbmaaEng4
/- Texts, one behind the other. -/
set_option linter.unusedVariables false
set_option linter.unusedSimpArgs false
set_option maxRecDepth 8000
set_option maxHeartbeats 8000000
namespace Go.Proofs.Ytbobjiaggngbmaa
open Go.Eng
theorem txt_gt : ∀ (n : Nat) (xs acc : List Int) (p : Nat), xs.length ≤ n → (txt xs acc p).2.2 = 0 → ((p + 2 : Nat) : Int) ≤ (txt xs acc p).2.1
  | _, [], acc, p, _, h => by simp [txt] at h
  | 0, _ :: _, _, _, h, _ => by simp at h
  | n + 1, c :: r, acc, p, h, h0 => by
    simp only [List.length_cons] at h
    by_cases hc : c = 0
    · cases r with
      | nil => rw [txt_end hc] at h0; simp at h0
      | cons d t =>
        simp only [List.length_cons] at h
        rw [txt_esc hc] at h0 ⊢
        split
        · exact Int.le_refl _
        · rename_i h1
          rw [if_neg h1] at h0
          split
          · rename_i h2
            rw [if_pos h2] at h0
            have := txt_gt n t (acc ++ [0]) (p + 2) (by omega) h0
            omega
          · rename_i h2
            rw [if_neg h2] at h0; simp at h0
    · rw [txt_ne hc] at h0 ⊢
      have := txt_gt n r (acc ++ [c]) (p + 1) (by omega) h0
      omega
theorem rdText_lt {b : List Int} {m : Int} (h : (rdText b 0 m).2.2 = 0) : (rdText b 0 m).2.1.length + 2 ≤ b.length := by
  unfold rdText at h ⊢
  rw [if_neg (by simp)] at h ⊢
  by_cases h1 : (getText b).2.2 = 0
  · have hb := getText_bd b
    have hg := txt_gt b.length b [] 0 (Nat.le_refl _) h1
    have hg : ((0 + 2 : Nat) : Int) ≤ (getText b).2.1 := hg
    rw [if_neg (by rw [h1]; simp)] at h ⊢
    generalize (if 0 < m then m else 0) = mm at *
    split at h
    · simp at h
    · rename_i h3
      rw [if_neg h3]
      dsimp only
      rw [List.length_drop]; omega
  · rw [if_pos h1] at h
    exact absurd h h1
theorem rdText_err {b : List Int} {e m : Int} (h : (rdText b e m).2.2 = 0) : e = 0 := by
  unfold rdText at h
  by_cases he : e = 0
  · exact he
  · rw [if_pos he] at h; exact h
theorem txt_sum : ∀ (n : Nat) (xs acc : List Int) (p : Nat), xs.length ≤ n → (txt xs acc p).2.2 = 0 → ((txt xs acc p).1.length : Int) + p + 2 ≤ acc.length + (txt xs acc p).2.1
  | _, [], acc, p, _, h => by simp [txt] at h
  | 0, _ :: _, _, _, h, _ => by simp at h
  | n + 1, c :: r, acc, p, h, h0 => by
    simp only [List.length_cons] at h
    by_cases hc : c = 0
    · cases r with
      | nil => rw [txt_end hc] at h0; simp at h0
      | cons d t =>
        simp only [List.length_cons] at h
        rw [txt_esc hc] at h0 ⊢
        split
        · dsimp only; omega
        · rename_i h1
          rw [if_neg h1] at h0
          split
          · rename_i h2
            rw [if_pos h2] at h0
            have := txt_sum n t (acc ++ [0]) (p + 2) (by omega) h0
            rw [List.length_append, List.length_singleton] at this
            omega
          · rename_i h2
            rw [if_neg h2] at h0; simp at h0
    · rw [txt_ne hc] at h0 ⊢
      have := txt_sum n r (acc ++ [c]) (p + 1) (by omega) h0
      rw [List.length_append, List.length_singleton] at this
      omega
theorem rdText_sum (b : List Int) (e m : Int) : (rdText b e m).1.length + (rdText b e m).2.1.length ≤ b.length := by
  unfold rdText
  by_cases he : e = 0
  · rw [if_neg (by simp [he])]
    by_cases h1 : (getText b).2.2 = 0
    · rw [if_neg (by rw [h1]; simp)]
      have hb := getText_bd b
      have hg := txt_sum b.length b [] 0 (Nat.le_refl _) h1
      have hg : ((txt b [] 0).1.length : Int) + (0 : Nat) + 2 ≤ (([] : List Int).length : Int) + (getText b).2.1 := hg
      have hl : (getText b).1.length = (txt b [] 0).1.length := by simp [getText, strOfBytes]
      rw [List.length_nil] at hg
      generalize (if 0 < m then m else 0) = mm at *
      split
      · dsimp only; simp
      · dsimp only
        rw [List.length_drop, hl]; omega
    · rw [if_pos h1]; simp
  · rw [if_pos he]; simp
def decR (m : Int) : Nat → List Int → Int → List Rg × List Int × Int
  | 0, b, e => ([], b, e)
  | n + 1, b, e =>
    let x := rdText b e m
    let y := rdText x.2.1 x.2.2 m
    let z := decR m n y.2.1 y.2.2
    ((x.1, y.1) :: z.1, z.2)
def decG (b : List Int) : List Rg := (decR b.length (rdSmall b 0).1.toNat (rdSmall b 0).2.1 (rdSmall b 0).2.2).1
def getG (b : List Int) : List Rg × Int := if chkR (decG b) = 0 ∧ putG (decG b) = b then (decG b, 0) else ([], 4)
theorem decR_put {m : Int} (r : List Int) : ∀ (l : List Rg), (∀ x ∈ l, (x.1.length : Int) ≤ m ∧ (x.2.length : Int) ≤ m) → decR m l.length (l.flatMap putR1 ++ r) 0 = (l, r, 0)
  | [], _ => rfl
  | x :: l, h => by
    obtain ⟨h1, h2⟩ := h x List.mem_cons_self
    have e1 : rdText ((x :: l).flatMap putR1 ++ r) 0 m = (x.1, putText x.2 ++ (l.flatMap putR1 ++ r), 0) := by
      rw [List.flatMap_cons, putR1, List.append_assoc, List.append_assoc]; exact rdText_put h1 _
    rw [List.length_cons, decR, e1]
    dsimp only
    rw [rdText_put h2]
    dsimp only
    rw [decR_put r l fun y hy => h y (List.mem_cons_of_mem _ hy)]
theorem escI_ge : ∀ xs : List Int, xs.length ≤ (xs.flatMap escI).length
  | [] => Nat.zero_le _
  | x :: r => by
    have := escI_ge r
    have h2 : 1 ≤ (escI x).length := by unfold escI; split <;> simp
    rw [List.flatMap_cons, List.length_append, List.length_cons]; omega
theorem putText_geR (s : List UInt8) : s.length + 2 ≤ (putText s).length := by
  have h := escI_ge (bytesOfStr s)
  have e : (bytesOfStr s).length = s.length := by simp [bytesOfStr]
  simp only [putText, putB, List.length_append, List.length_cons, List.length_nil]; omega
theorem putR1s_ge : ∀ l : List Rg, sumT l + 4 * l.length ≤ (l.flatMap putR1).length
  | [] => by simp [sumT]
  | r :: t => by
    have h1 := putR1s_ge t
    have h2 := putText_geR r.1
    have h3 := putText_geR r.2
    rw [List.flatMap_cons, List.length_append, putR1, List.length_append, sumT, List.length_cons]; omega
theorem putG_ge (l : List Rg) : sumT l + 4 * l.length ≤ (putG l).length := by
  have := putR1s_ge l
  rw [putG, List.length_append]; omega
theorem putG_small {s : List Rg} {b : List Int} (hb : putG s = b) (hl : b.length ≤ 1000000) : rdSmall b 0 = ((s.length : Int), s.flatMap putR1, 0) := by
  have := putG_ge s
  rw [← hb]; exact rdSmall_put (by omega) (by rw [hb] at this; omega) _
theorem putG_fit {s : List Rg} {b : List Int} (hb : putG s = b) {x : Rg} (hx : x ∈ s) : (x.1.length : Int) ≤ (b.length : Int) ∧ (x.2.length : Int) ≤ (b.length : Int) := by
  have h1 := putG_ge s
  have h2 := sumT_mem hx
  rw [hb] at h1
  omega
theorem decG_put {s : List Rg} {b : List Int} (hb : putG s = b) (hl : b.length ≤ 1000000) : decG b = s := by
  unfold decG
  rw [putG_small hb hl]
  dsimp only
  rw [Int.toNat_natCast]
  have := decR_put (m := (b.length : Int)) [] s fun x hx => putG_fit hb hx
  rw [List.append_nil] at this
  rw [this]
theorem getG_put {s : List Rg} {b : List Int} (h : chkR s = 0) (hb : putG s = b) (hl : b.length ≤ 1000000) : getG b = (s, 0) := by
  have := decG_put hb hl
  rw [getG, this, if_pos ⟨h, hb⟩]
theorem getG_not {b : List Int} (h : ∀ s, chkR s = 0 → putG s = b → False) : getG b = ([], 4) := if_neg fun hc => h _ hc.1 hc.2
theorem isB_G (l : List Rg) : isB (putG l) := by
  unfold putG
  refine isB_append (isB_small _) fun z hz => ?_
  obtain ⟨x, -, hz⟩ := List.mem_flatMap.1 hz
  exact isB_append (isB_put _) (isB_put _) z hz
def sGetG : PSpec := ⟨[.d BT], [⟨false, [.d RgsT]⟩, ⟨false, [.d (.int .i64)]⟩], fun x => List.length (α := Int) x.1 ≤ 50000, fun x => (((getG x.1).1, ()), ((getG x.1).2, ()), ())⟩
def sGetGR : PSpec := sGetG
theorem retGG {u v : List Rg × Int} (h : u = v) : (some ((u.1, ()), (u.2, ()), ()) : Option ((List Rg × Unit) × (Int × Unit) × Unit)) = some ((v.1, ()), (v.2, ()), ()) := by rw [h]
theorem fGetG : FnOk Try.prog 26 := ⟨_, Try.func26, by decide, rfl⟩
theorem pGetG : PSound Try.prog 26 sGetG := by
  refine psound (T := tab) (S := (spOf [(50, sNew.spec (lsOf [])), (52, sText.spec), (51, sSmall.spec), (24, sPutG.spec (lsOf [])), (53, sBEqual.spec (lsOf []))])) (keep := k26) (by kernel_rfl) tabOk (spCons (.inl ⟨nOk lsNil pNew, fNew⟩) (spCons (.inl ⟨pText, fText⟩) (spCons (.inl ⟨pSmall, fSmall⟩) (spCons (pOk pPutG fPutG (by decide) lsNil) (spCons (pOk pBEqual fBEqual (by decide) lsNil) spNil))))) (by kernel_rfl) Try.func26 (by kernel_rfl) (by decide) fun xs hg hp => ?_
  obtain ⟨b, ⟨⟩⟩ := xs
  obtain ⟨⟨-, hx⟩, -⟩ := hg
  change List Int at b
  change b.length ≤ 50000 at hp
  have hB : isB b := isB_good hx
  clear hx
  have hb1 := rdSmall_suf b 0
  have hl1 := suf_len hb1
  show vfun tab _ k26 Try.f26 [.sl (.int .u8) b] [] _
  refine Ev.out ?_
  repeat' (first | ((with_reducible refine Ev.mk ?_); conv => whnf) | (with_reducible refine And.intro ?_ ?_) | (intro h))
  all_goals (try simp only [decide_eq_true_eq, decide_eq_false_iff_not, beq_iff_eq, bne_iff_ne, beq_eq_false_iff_ne, bne_eq_false_iff_eq, Int.toNat_natCast, ge_iff_le, gt_iff_lt, Bool.not_eq_true', Bool.not_eq_false', Int.not_lt, Int.not_le, ne_eq] at *)
  all_goals (try dsimp only [Ty.den, Ty.dflt, RgT, sNew, sText, sSmall] at *)
  all_goals (try simp only [eq4, ne4, eq3, ne3, eq2, ne2, Prod.eta, List.length_cons, List.length_nil, List.length_append, Nat.zero_add] at *)
  all_goals (try simp (disch := omega) only [wrap64] at *)
  all_goals try first | exact leafDraw (by kernel_rfl) | exact Leaf.mk trivial | (refine Leaf.mk ?_; omega) | (refine Leaf.mk ?_; unfold maxLen; omega)
  generalize hN : (if (b.length : Int) < (rdSmall b 0).1 then (b.length : Int) else (rdSmall b 0).1) = N
  have hNb : N ≤ (b.length : Int) := by rw [← hN]; split <;> omega
  generalize hb0 : (rdSmall b 0).2.1 = b0 at *
  generalize he0 : (rdSmall b 0).2.2 = e0
  have h0 : ∀ s, chkR s = 0 → putG s = b → N = s.length ∧ b0 = s.flatMap putR1 ∧ e0 = 0 := fun s hs hb => by
    have h1 := putG_small hb (by omega)
    have h2 := putG_ge s
    rw [hb] at h2
    rw [h1] at hN hb0 he0
    dsimp only at hN hb0 he0
    exact ⟨by rw [← hN, if_neg (by omega)], hb0.symm, he0.symm⟩
  refine LoopVC.weak [(.slot 5, .nil 29 RgT)] (fun a : Nat × List Int × Int × List Rg => [(15, .i .i64 a.1)]) (fun a => [(0, .box [.sl (.int .u8) a.2.1, .i .i64 a.2.2.1]), (1, .arr 29 RgT a.2.2.2)]) (fun a => (a.1 ≤ b.length ∧ a.2.1 <:+ b ∧ a.2.2.2.length = a.1 ∧ sumT a.2.2.2 + a.2.1.length ≤ b.length) ∧ ∀ s, chkR s = 0 → putG s = b → N = s.length ∧ a.1 ≤ s.length ∧ a.2.1 = (s.drop a.1).flatMap putR1 ∧ a.2.2.1 = 0 ∧ a.2.2.2 = s.take a.1) (fun a => b.length - a.1) (0, b0, e0, []) (Ev.mk ?_)
  (conv => whnf)
  refine ⟨Leaf.mk rfl, Leaf.mk ?_, ?_⟩
  · refine ⟨⟨Nat.zero_le _, hb1, rfl, by show 0 + b0.length ≤ _; omega⟩, fun s hs hb => ?_⟩
    obtain ⟨h1, h2, h3⟩ := h0 s hs hb
    exact ⟨h1, Nat.zero_le _, h2, h3, rfl⟩
  rintro ⟨i, rb, re, vs⟩ ⟨⟨hi, hrb, hvl, hsum⟩, hv⟩
  dsimp only at hi hrb hvl hsum hv ⊢
  have hrl := suf_len hrb
  have hs1 := rdText_suf rb re b.length
  have hs2 := rdText_suf (rdText rb re b.length).2.1 (rdText rb re b.length).2.2 b.length
  have hs1l := suf_len hs1
  have hs2l := suf_len hs2
  have hu1 := rdText_sum rb re b.length
  have hu2 := rdText_sum (rdText rb re b.length).2.1 (rdText rb re b.length).2.2 b.length
  have hgo : ∀ s, chkR s = 0 → putG s = b → i < s.length → rdText rb re b.length = ((s.getD i rg0).1, putText (s.getD i rg0).2 ++ (s.drop (i + 1)).flatMap putR1, 0) ∧ rdText (rdText rb re b.length).2.1 (rdText rb re b.length).2.2 b.length = ((s.getD i rg0).2, (s.drop (i + 1)).flatMap putR1, 0) := fun s hs hb hil => by
    obtain ⟨k1, k2, k3, k4, k5⟩ := hv s hs hb
    have hf := putG_fit hb (getD_mem rg0 hil)
    have e1 : rdText rb re b.length = ((s.getD i rg0).1, putText (s.getD i rg0).2 ++ (s.drop (i + 1)).flatMap putR1, 0) := by
      rw [k3, k4, drop_at rg0 hil, List.flatMap_cons, putR1, List.append_assoc]; exact rdText_put hf.1 _
    refine ⟨e1, ?_⟩
    rw [e1]
    exact rdText_put hf.2 _
  have hnew : sumT (vs ++ [((rdText rb re b.length).1, (rdText (rdText rb re b.length).2.1 (rdText rb re b.length).2.2 b.length).1)]) + (rdText (rdText rb re b.length).2.1 (rdText rb re b.length).2.2 b.length).2.1.length ≤ b.length := by
    rw [sumT_app]; simp only [sumT]; omega
  repeat' (first | ((with_reducible refine Ev.mk ?_); conv => whnf) | (with_reducible refine And.intro ?_ ?_) | (intro h))
  all_goals (try simp only [decide_eq_true_eq, decide_eq_false_iff_not, beq_iff_eq, bne_iff_ne, beq_eq_false_iff_ne, bne_eq_false_iff_eq, Int.toNat_natCast, ge_iff_le, gt_iff_lt, Bool.not_eq_true', Bool.not_eq_false', Int.not_lt, Int.not_le, ne_eq] at *)
  all_goals (try dsimp only [Ty.den, Ty.dflt, RgT, sNew, sText, sSmall] at *)
  all_goals (try simp only [eq4, ne4, eq3, ne3, eq2, ne2, Prod.eta, List.length_cons, List.length_nil, List.length_append, Nat.zero_add] at *)
  all_goals (try simp (disch := omega) only [wrap64] at *)
  all_goals try first | exact leafDraw (by kernel_rfl) | exact Leaf.mk trivial | (refine Leaf.mk ?_; omega) | (refine Leaf.mk ?_; unfold maxLen; omega)
  · have hlt : (i : Int) < N := by rw [← hN]; assumption
    refine Leaf.mk (Exists.intro (i + 1, (rdText (rdText rb re b.length).2.1 (rdText rb re b.length).2.2 b.length).2.1, (rdText (rdText rb re b.length).2.1 (rdText rb re b.length).2.2 b.length).2.2, vs ++ [((rdText rb re b.length).1, (rdText (rdText rb re b.length).2.1 (rdText rb re b.length).2.2 b.length).1)]) ⟨rfl, ⟨⟨by dsimp only; omega, hs2.trans (hs1.trans hrb), by simp; omega, hnew⟩, fun s hs hb => ?_⟩, by dsimp only; omega⟩)
    obtain ⟨k1, k2, k3, k4, k5⟩ := hv s hs hb
    obtain ⟨m1, m2⟩ := hgo s hs hb (by omega)
    dsimp only
    rw [m2]
    refine ⟨k1, by omega, rfl, rfl, ?_⟩
    rw [take_at rg0 (by omega), k5, m1]
  · exact Leaf.mk (show vs.length ≤ 60000 ∧ sumT vs ≤ 60000 from ⟨by omega, by omega⟩)
  all_goals
    have hge : N ≤ (i : Int) := by rw [← hN]; assumption
    have hsame : ∀ s, chkR s = 0 → putG s = b → vs = s := fun s hs hb => by
      obtain ⟨k1, k2, k3, k4, k5⟩ := hv s hs hb
      rw [k5, List.take_of_length_le (by omega)]
  · have h9 : ¬ (putGF vs).2 = 0 := by assumption
    refine Leaf.mk (retGG (u := ([], 4)) (v := getG b) ?_)
    rw [getG_not fun s hs hb => ?_]
    rw [hsame s hs hb, putGF, if_pos hs] at h9
    exact h9 rfl
  · have h8 : (putGF vs).2 = 0 := by assumption
    have h9 : (strOfBytes b == strOfBytes (putGF vs).1) = false := by assumption
    refine Leaf.mk (retGG (u := ([], 4)) (v := getG b) ?_)
    rw [getG_not fun s hs hb => ?_]
    rw [hsame s hs hb, putGF, if_pos hs, hb] at h9
    simp at h9
  · have h8 : (putGF vs).2 = 0 := by assumption
    have h9 : (strOfBytes b == strOfBytes (putGF vs).1) = true := by assumption
    have hc : chkR vs = 0 := by
      by_cases hc : chkR vs = 0
      · exact hc
      · rw [putGF, if_neg hc] at h8; exact absurd h8 hc
    rw [putGF, if_pos hc] at h9
    refine Leaf.mk (retGG (u := (vs, 0)) (v := getG b) ?_)
    rw [getG_put hc (str_inj hB (isB_G _) (eq_of_beq h9)).symm (by omega)]
theorem fGetGR : FnOk Try.prog 27 := ⟨_, Try.func27, by decide, rfl⟩
theorem pGetGR : PSound Try.prog 27 sGetGR := by
  refine psound (T := tab) (S := (spOf [(54, sRSmall.spec (lsOf [])), (55, sRText.spec (lsOf [])), (25, sPutGR.spec (lsOf []))])) (keep := k27) (by kernel_rfl) tabOk (spCons (pOk pRSmall fRSmall (by decide) lsNil) (spCons (pOk pRText fRText (by decide) lsNil) (spCons (pOk pPutGR fPutGR (by decide) lsNil) spNil))) (by kernel_rfl) Try.func27 (by kernel_rfl) (by decide) fun xs hg hp => ?_
  obtain ⟨b, ⟨⟩⟩ := xs
  obtain ⟨⟨-, hx⟩, -⟩ := hg
  change List Int at b
  change b.length ≤ 50000 at hp
  have hB : isB b := isB_good hx
  clear hx
  have hb1 := rdSmall_suf b 0
  have hl1 := suf_len hb1
  show vfun tab _ k27 Try.f27 [.sl (.int .u8) b] [] _
  refine Ev.out ?_
  repeat' (first | ((with_reducible refine Ev.mk ?_); conv => whnf) | (with_reducible refine And.intro ?_ ?_) | (intro h))
  all_goals (try simp only [decide_eq_true_eq, decide_eq_false_iff_not, beq_iff_eq, bne_iff_ne, beq_eq_false_iff_ne, bne_eq_false_iff_eq, Int.toNat_natCast, ge_iff_le, gt_iff_lt, Bool.not_eq_true', Bool.not_eq_false', Int.not_lt, Int.not_le, ne_eq] at *)
  all_goals (try dsimp only [Ty.den, Ty.dflt, RgT, sRSmall, sRText] at *)
  all_goals (try simp only [eq4, ne4, eq3, ne3, eq2, ne2, Prod.eta, List.length_cons, List.length_nil, List.length_append, Nat.zero_add] at *)
  all_goals (try simp (disch := omega) only [wrap64] at *)
  all_goals try first | exact leafDraw (by kernel_rfl) | exact Leaf.mk trivial | (refine Leaf.mk ?_; omega) | (refine Leaf.mk ?_; unfold maxLen; omega)
  generalize hN : (rdSmall b 0).1 = N
  generalize hb0 : (rdSmall b 0).2.1 = b0 at *
  generalize he0 : (rdSmall b 0).2.2 = e0
  have h0 : ∀ s, chkR s = 0 → putG s = b → N = s.length ∧ b0 = s.flatMap putR1 ∧ e0 = 0 := fun s hs hb => by
    have h1 := putG_small hb (by omega)
    rw [h1] at hN hb0 he0
    exact ⟨hN.symm, hb0.symm, he0.symm⟩
  refine LoopVC.weak [(.slot 6, .nil 24 RgT)] (fun a : Nat × List Int × Int × List Rg => [(7, .i .i64 a.1)]) (fun a => [(0, .box [.sl (.int .u8) a.2.1, .i .i64 a.2.2.1]), (1, .arr 24 RgT a.2.2.2)]) (fun a => (a.1 ≤ b.length + 1 ∧ (a.2.2.1 = 0 → a.1 + a.2.1.length ≤ b.length) ∧ a.2.1 <:+ b ∧ a.2.2.2.length = a.1 ∧ sumT a.2.2.2 + a.2.1.length ≤ b.length) ∧ ∀ s, chkR s = 0 → putG s = b → N = s.length ∧ a.1 ≤ s.length ∧ a.2.1 = (s.drop a.1).flatMap putR1 ∧ a.2.2.1 = 0 ∧ a.2.2.2 = s.take a.1) (fun a => if a.2.2.1 = 0 then a.2.1.length + 1 else 0) (0, b0, e0, []) (Ev.mk ?_)
  (conv => whnf)
  refine ⟨Leaf.mk rfl, Leaf.mk ?_, ?_⟩
  · refine ⟨⟨Nat.zero_le _, fun _ => by dsimp only; omega, hb1, rfl, by show 0 + b0.length ≤ _; omega⟩, fun s hs hb => ?_⟩
    obtain ⟨h1, h2, h3⟩ := h0 s hs hb
    exact ⟨h1, Nat.zero_le _, h2, h3, rfl⟩
  rintro ⟨i, rb, re, vs⟩ ⟨⟨hi, hib, hrb, hvl, hsum⟩, hv⟩
  dsimp only at hi hib hrb hvl hsum hv ⊢
  have hrl := suf_len hrb
  have hs1 := rdText_suf rb re b.length
  have hs2 := rdText_suf (rdText rb re b.length).2.1 (rdText rb re b.length).2.2 b.length
  have hs1l := suf_len hs1
  have hs2l := suf_len hs2
  have hu1 := rdText_sum rb re b.length
  have hu2 := rdText_sum (rdText rb re b.length).2.1 (rdText rb re b.length).2.2 b.length
  have hgo : ∀ s, chkR s = 0 → putG s = b → i < s.length → rdText rb re b.length = ((s.getD i rg0).1, putText (s.getD i rg0).2 ++ (s.drop (i + 1)).flatMap putR1, 0) ∧ rdText (rdText rb re b.length).2.1 (rdText rb re b.length).2.2 b.length = ((s.getD i rg0).2, (s.drop (i + 1)).flatMap putR1, 0) := fun s hs hb hil => by
    obtain ⟨k1, k2, k3, k4, k5⟩ := hv s hs hb
    have hf := putG_fit hb (getD_mem rg0 hil)
    have e1 : rdText rb re b.length = ((s.getD i rg0).1, putText (s.getD i rg0).2 ++ (s.drop (i + 1)).flatMap putR1, 0) := by
      rw [k3, k4, drop_at rg0 hil, List.flatMap_cons, putR1, List.append_assoc]; exact rdText_put hf.1 _
    refine ⟨e1, ?_⟩
    rw [e1]
    exact rdText_put hf.2 _
  have hnew : sumT (vs ++ [((rdText rb re b.length).1, (rdText (rdText rb re b.length).2.1 (rdText rb re b.length).2.2 b.length).1)]) + (rdText (rdText rb re b.length).2.1 (rdText rb re b.length).2.2 b.length).2.1.length ≤ b.length := by
    rw [sumT_app]; simp only [sumT]; omega
  repeat' (first | ((with_reducible refine Ev.mk ?_); conv => whnf) | (with_reducible refine And.intro ?_ ?_) | (intro h))
  all_goals (try simp only [decide_eq_true_eq, decide_eq_false_iff_not, beq_iff_eq, bne_iff_ne, beq_eq_false_iff_ne, bne_eq_false_iff_eq, Int.toNat_natCast, ge_iff_le, gt_iff_lt, Bool.not_eq_true', Bool.not_eq_false', Int.not_lt, Int.not_le, ne_eq] at *)
  all_goals (try dsimp only [Ty.den, Ty.dflt, RgT, sRSmall, sRText] at *)
  all_goals (try simp only [eq4, ne4, eq3, ne3, eq2, ne2, Prod.eta, List.length_cons, List.length_nil, List.length_append, Nat.zero_add] at *)
  all_goals (try simp (disch := omega) only [wrap64] at *)
  all_goals try first | exact leafDraw (by kernel_rfl) | exact Leaf.mk trivial | (refine Leaf.mk ?_; omega) | (refine Leaf.mk ?_; unfold maxLen; omega)
  · have hd : re = 0 := by assumption
    have hib := hib hd
    have hmore : (rdText (rdText rb re b.length).2.1 (rdText rb re b.length).2.2 b.length).2.2 = 0 → (rdText (rdText rb re b.length).2.1 (rdText rb re b.length).2.2 b.length).2.1.length + 2 ≤ rb.length := fun h => by
      have h1 := rdText_err h
      rw [h1] at h ⊢
      have h2 := rdText_lt h
      have h3 := rdText_suf (rdText rb re b.length).2.1 0 b.length
      omega
    refine Leaf.mk (Exists.intro (i + 1, (rdText (rdText rb re b.length).2.1 (rdText rb re b.length).2.2 b.length).2.1, (rdText (rdText rb re b.length).2.1 (rdText rb re b.length).2.2 b.length).2.2, vs ++ [((rdText rb re b.length).1, (rdText (rdText rb re b.length).2.1 (rdText rb re b.length).2.2 b.length).1)]) ⟨rfl, ⟨⟨by dsimp only; omega, fun h => ?_, hs2.trans (hs1.trans hrb), by simp; omega, hnew⟩, fun s hs hb => ?_⟩, ?_⟩)
    · have := hmore h
      dsimp only; omega
    · obtain ⟨k1, k2, k3, k4, k5⟩ := hv s hs hb
      obtain ⟨m1, m2⟩ := hgo s hs hb (by omega)
      dsimp only
      rw [m2]
      refine ⟨k1, by omega, rfl, rfl, ?_⟩
      rw [take_at rg0 (by omega), k5, m1]
    · dsimp only
      rw [if_pos hd]
      split
      · rename_i h9
        have := hmore h9
        omega
      · omega
  all_goals try exact Leaf.mk (show vs.length ≤ 60000 ∧ sumT vs ≤ 60000 from ⟨by omega, by omega⟩)
  all_goals
    have hsame : ∀ s, chkR s = 0 → putG s = b → vs = s := fun s hs hb => by
      obtain ⟨k1, k2, k3, k4, k5⟩ := hv s hs hb
      rw [k5, List.take_of_length_le (by omega)]
    clear hv hgo hnew hu1 hu2 hs1 hs2 hs1l hs2l
    first
    | (have h9 : ¬ (putGF vs).2 = 0 := by assumption
       refine Leaf.mk (retGG (u := ([], 4)) (v := getG b) ?_)
       rw [getG_not fun s hs hb => ?_]
       rw [hsame s hs hb, putGF, if_pos hs] at h9
       exact h9 rfl)
    | (have h8 : (putGF vs).2 = 0 := by assumption
       have h9 : ¬ strOfBytes (putGF vs).1 = strOfBytes b := by assumption
       refine Leaf.mk (retGG (u := ([], 4)) (v := getG b) ?_)
       rw [getG_not fun s hs hb => ?_]
       rw [hsame s hs hb, putGF, if_pos hs, hb] at h9
       exact h9 rfl)
    | (have h8 : (putGF vs).2 = 0 := by assumption
       have h9 : strOfBytes (putGF vs).1 = strOfBytes b := by assumption
       have hc : chkR vs = 0 := by
         by_cases hc : chkR vs = 0
         · exact hc
         · rw [putGF, if_neg hc] at h8; exact absurd h8 hc
       rw [putGF, if_pos hc] at h9
       refine Leaf.mk (retGG (u := (vs, 0)) (v := getG b) ?_)
       rw [getG_put hc (str_inj (isB_G _) hB h9) (by omega)])
end Go.Proofs.Ytbobjiaggngbmaa

set_option linter.unusedVariables false
set_option linter.unusedSimpArgs false
set_option maxRecDepth 8000
set_option maxHeartbeats 8000000
namespace Go.Proofs.Ytbobjiaggngbmaa
open Go.Eng
theorem behL_not {xs : List Int} (h : (behL xs).2 = false) : (behL xs).1 = [] := by
  unfold behL at h ⊢
  split
  · rfl
  · rename_i n hn
    rw [hn] at h
    simp at h
def prefR (p : Str) : Rg := (p, strOfBytes (behL (bytesOfStr p)).1)
theorem bos_len (p : Str) : (bytesOfStr p).length = p.length := by simp [bytesOfStr]
def sPrefA : PSpec := ⟨[.d .str], [⟨true, [.d RgT]⟩], fun x => List.length (α := UInt8) x.1 ≤ 10000, fun x => ((prefR x.1, ()), ())⟩
def sPrefB : PSpec := sPrefA
theorem fPrefA : FnOk Try.prog 32 := ⟨_, Try.func32, by decide, rfl⟩
theorem pPrefA : PSound Try.prog 32 sPrefA := by
  refine psound (T := tab) (S := (spOf [(60, sBehind.spec (lsOf []))])) (keep := k32) (by kernel_rfl) tabOk (spCons (pOk pBehind fBehind (by decide) lsNil) spNil) (by kernel_rfl) Try.func32 (by kernel_rfl) (by decide) fun xs hg hp => ?_
  obtain ⟨p, ⟨⟩⟩ := xs
  change List UInt8 at p
  change p.length ≤ 10000 at hp
  clear hg
  show vfun tab _ k32 Try.f32 [.s p] [] _
  refine Ev.out ?_
  repeat' (first | ((with_reducible refine Ev.mk ?_); conv => whnf) | (with_reducible refine And.intro ?_ ?_) | (intro h))
  all_goals (try simp only [decide_eq_true_eq, decide_eq_false_iff_not, beq_iff_eq, bne_iff_ne, beq_eq_false_iff_ne, bne_eq_false_iff_eq, Int.toNat_natCast, ge_iff_le, gt_iff_lt, Bool.not_eq_true', Bool.not_eq_false', Int.not_lt, Int.not_le, ne_eq] at *)
  all_goals (try dsimp only [Ty.den, Ty.dflt, RgT, sBehind] at *)
  all_goals (try simp only [eq4, ne4, eq3, ne3, eq2, ne2, Prod.eta, List.length_cons, List.length_nil, List.length_append, Nat.zero_add] at *)
  all_goals (try simp (disch := omega) only [wrap64] at *)
  all_goals try first | exact leafDraw (by kernel_rfl) | exact Leaf.mk trivial | (refine Leaf.mk ?_; omega) | (refine Leaf.mk ?_; unfold maxLen; omega)
  all_goals first
    | exact Leaf.mk (show (bytesOfStr p).length ≤ 100000 by rw [bos_len]; omega)
    | exact Leaf.mk (ret1 rfl)
theorem fPrefB : FnOk Try.prog 33 := ⟨_, Try.func33, by decide, rfl⟩
theorem pPrefB : PSound Try.prog 33 sPrefB := by
  refine psound (T := tab) (S := (spOf [(61, sBehindR.spec (lsOf []))])) (keep := k33) (by kernel_rfl) tabOk (spCons (pOk pBehindR fBehindR (by decide) lsNil) spNil) (by kernel_rfl) Try.func33 (by kernel_rfl) (by decide) fun xs hg hp => ?_
  obtain ⟨p, ⟨⟩⟩ := xs
  change List UInt8 at p
  change p.length ≤ 10000 at hp
  clear hg
  show vfun tab _ k33 Try.f33 [.s p] [] _
  refine Ev.out ?_
  repeat' (first | ((with_reducible refine Ev.mk ?_); conv => whnf) | (with_reducible refine And.intro ?_ ?_) | (intro h))
  all_goals (try simp only [decide_eq_true_eq, decide_eq_false_iff_not, beq_iff_eq, bne_iff_ne, beq_eq_false_iff_ne, bne_eq_false_iff_eq, Int.toNat_natCast, ge_iff_le, gt_iff_lt, Bool.not_eq_true', Bool.not_eq_false', Int.not_lt, Int.not_le, ne_eq] at *)
  all_goals (try dsimp only [Ty.den, Ty.dflt, RgT, sBehindR, sBehind] at *)
  all_goals (try simp only [eq4, ne4, eq3, ne3, eq2, ne2, Prod.eta, List.length_cons, List.length_nil, List.length_append, Nat.zero_add] at *)
  all_goals (try simp (disch := omega) only [wrap64] at *)
  all_goals try first | exact leafDraw (by kernel_rfl) | exact Leaf.mk trivial | (refine Leaf.mk ?_; omega) | (refine Leaf.mk ?_; unfold maxLen; omega)
  all_goals first
    | exact Leaf.mk (show (bytesOfStr p).length ≤ 100000 by rw [bos_len]; omega)
    | exact Leaf.mk (ret1 rfl)
    | (refine Leaf.mk (ret1 (show (p, []) = prefR p from ?_))
       rw [prefR, behL_not (by assumption)]; rfl)
instance (l : List Rg) : Decidable (okG l) := by unfold okG; infer_instance
def sAwake32 : PSpec := ⟨[], [⟨false, [.d .bool]⟩], fun _ => True, fun _ => ((true, ()), ())⟩
theorem fAwake32 : FnOk Try.prog 9 := ⟨_, Try.func9, by decide, rfl⟩
theorem pAwake32 : PSound Try.prog 9 sAwake32 := by
  refine psound (T := tab) (S := (spOf [(12, sPlainA.spec (lsOf [])), (20, sGapsA.spec (lsOf [])), (16, sRemoveA.spec (lsOf [])), (24, sPutG.spec (lsOf [])), (26, sGetG.spec (lsOf [])), (34, sSameA.spec (lsOf [])), (14, sAddA.spec (lsOf [])), (18, sBothA.spec (lsOf [])), (22, sCoversA.spec (lsOf [])), (28, sHasA.spec (lsOf [])), (32, sPrefA.spec (lsOf [])), (30, sCheckA.spec (lsOf []))])) (keep := k9) (by kernel_rfl) tabOk (spCons (pOk pPlainA fPlainA (by decide) lsNil) (spCons (pOk pGapsA fGapsA (by decide) lsNil) (spCons (pOk pRemoveA fRemoveA (by decide) lsNil) (spCons (pOk pPutG fPutG (by decide) lsNil) (spCons (pOk pGetG fGetG (by decide) lsNil) (spCons (pOk pSameA fSameA (by decide) lsNil) (spCons (pOk pAddA fAddA (by decide) lsNil) (spCons (pOk pBothA fBothA (by decide) lsNil) (spCons (pOk pCoversA fCoversA (by decide) lsNil) (spCons (pOk pHasA fHasA (by decide) lsNil) (spCons (pOk pPrefA fPrefA (by decide) lsNil) (spCons (pOk pCheckA fCheckA (by decide) lsNil) spNil)))))))))))) (by kernel_rfl) Try.func9 (by kernel_rfl) (by decide) fun xs hg hp => ?_
  obtain ⟨⟩ := xs
  show vfun tab _ k9 Try.f9 [] [] _
  refine Ev.out ?_
  repeat' (first | ((with_reducible refine Ev.mk ?_); conv => whnf) | (with_reducible refine And.intro ?_ ?_) | (intro h; first | exact absurd h (by decide +kernel) | skip))
  all_goals first
    | exact Leaf.mk trivial
    | exact leafDraw (by kernel_rfl)
    | (refine Leaf.mk ?_; change okG _; decide +kernel)
    | (refine Leaf.mk ?_; change (_ : Nat) ≤ _; decide +kernel)
    | (refine Leaf.mk ?_; change (_ : Nat) ≤ _ ∧ (_ : Nat) ≤ _; decide +kernel)
    | (refine Leaf.mk ?_; decide +kernel)
    | exact Leaf.mk rfl
    | skip
end Go.Proofs.Ytbobjiaggngbmaa

set_option linter.unusedVariables false
set_option linter.unusedSimpArgs false
set_option maxRecDepth 8000
set_option maxHeartbeats 8000000
namespace Go.Proofs.Ytbobjiaggngbmaa
open Go.Eng
theorem szR_of {r : Rg} (h : Sz (.pr .s .s) RgT r) : SzR r := by
  obtain ⟨h1, h2⟩ := h
  exact ⟨Nat.le_trans h1 (by decide), Nat.le_trans h2 (by decide)⟩
theorem szRs_of {l : List Rg} (h : Sz (.sl 32 (.pr .s .s)) RgsT l) : ∀ r ∈ l, SzR r := fun r hr => szR_of (h.2 r hr)
theorem light_len {l : List Rg} {n : Int} (h : lightR l n = true) : (l.length : Int) ≤ n := (lightR_of h).1
theorem sameR_self (l : List Rg) : sameR l l = true := decide_eq_true rfl
theorem same_no {l : List Rg} {p : Prop} (h : sameR l l = false) : p := by rw [sameR_self] at h; cases h
theorem sumT_le {m : Nat} : ∀ {l : List Rg}, (∀ r ∈ l, r.1.length + r.2.length ≤ m) → sumT l ≤ l.length * m
  | [], _ => by simp [sumT]
  | r :: t, h => by
    have h1 := h r List.mem_cons_self
    have h2 := sumT_le (l := t) fun x hx => h x (List.mem_cons_of_mem _ hx)
    rw [sumT, List.length_cons, Nat.succ_mul]; omega
theorem light_ok {l : List Rg} (h : lightR l 20 = true) : okG l := by
  obtain ⟨h1, h2⟩ := lightR_of h
  have := sumT_le h2
  exact ⟨by omega, by omega⟩
theorem getG_ok (b : List Int) : sumT (getG b).1 + 4 * (getG b).1.length ≤ b.length := by
  unfold getG
  split
  · rename_i h
    have := putG_ge (decG b)
    rw [h.2] at this
    exact this
  · simp [sumT]
def sRangesetTells : PSpec := lawSpecZ [.sl 32 (.pr .s .s), .s, .sl 1 .z] [RgsT, .str, BT]
theorem pRangesetTells : PSound Try.prog 4 sRangesetTells := by
  refine psound (T := tab) (S := (spOf [(8, sLightR32.spec (lsOf [])), (9, sAwake32.spec (lsOf [])), (10, sOwn32.spec (lsOf [])), (24, sPutG.spec (lsOf [])), (25, sPutGR.spec (lsOf [])), (26, sGetG.spec (lsOf [])), (27, sGetGR.spec (lsOf [])), (28, sHasA.spec (lsOf [])), (29, sHasB.spec (lsOf [])), (30, sCheckA.spec (lsOf [])), (31, sCheckB.spec (lsOf [])), (11, sSameL.spec (lsOf [])), (32, sPrefA.spec (lsOf [])), (33, sPrefB.spec (lsOf [])), (34, sSameA.spec (lsOf [])), (35, sSameB.spec (lsOf []))])) (keep := k4) (by kernel_rfl) tabOk (spCons (pOk pLightR32 fLightR32 (by decide) lsNil) (spCons (pOk pAwake32 fAwake32 (by decide) lsNil) (spCons (pOk pOwn32 fOwn32 (by decide) lsNil) (spCons (pOk pPutG fPutG (by decide) lsNil) (spCons (pOk pPutGR fPutGR (by decide) lsNil) (spCons (pOk pGetG fGetG (by decide) lsNil) (spCons (pOk pGetGR fGetGR (by decide) lsNil) (spCons (pOk pHasA fHasA (by decide) lsNil) (spCons (pOk pHasB fHasB (by decide) lsNil) (spCons (pOk pCheckA fCheckA (by decide) lsNil) (spCons (pOk pCheckB fCheckB (by decide) lsNil) (spCons (pOk pSameL fSameL (by decide) lsNil) (spCons (pOk pPrefA fPrefA (by decide) lsNil) (spCons (pOk pPrefB fPrefB (by decide) lsNil) (spCons (pOk pSameA fSameA (by decide) lsNil) (spCons (pOk pSameB fSameB (by decide) lsNil) spNil)))))))))))))))) (by kernel_rfl) Try.func4 (by kernel_rfl) (by decide) fun xs hg hp => ?_
  obtain ⟨a, k, b, ⟨⟩⟩ := xs
  change List Rg at a
  change List UInt8 at k
  change List Int at b
  obtain ⟨hz1, -, -⟩ := hp
  have hz1 := szRs_of hz1
  clear hg
  show vfun tab _ k4 Try.f4 [.sl RgT a, .s k, .sl (.int .u8) b] [] _
  refine Ev.out ?_
  repeat' (first | ((with_reducible refine Ev.mk ?_); conv => whnf) | (with_reducible refine And.intro ?_ ?_) | (intro h))
  all_goals (try simp only [decide_eq_true_eq, decide_eq_false_iff_not, beq_iff_eq, bne_iff_ne, beq_eq_false_iff_ne, bne_eq_false_iff_eq, Int.toNat_natCast, ge_iff_le, gt_iff_lt, Bool.not_eq_true', Bool.not_eq_false', Int.not_lt, Int.not_le, ne_eq] at *)
  all_goals (try dsimp only [Ty.den, Ty.dflt, RgT, sLightR32, sOwn32, sPutG, sPutGR, sGetG, sGetGR, sHasA, sHasB, sCheckA, sCheckB, sSameL, sEqualR, sPrefA, sPrefB, sSameA, sSameB] at *)
  all_goals (try simp only [eq4, ne4, eq3, ne3, eq2, ne2, Prod.eta, List.length_cons, List.length_nil, List.length_append, Nat.zero_add] at *)
  all_goals (try simp (disch := omega) only [wrap64] at *)
  all_goals try first | exact leafDraw (by kernel_rfl) | exact Leaf.mk trivial | (refine Leaf.mk ?_; omega) | (refine Leaf.mk ?_; unfold maxLen; omega)
  all_goals
    have hla : lightR a 20 = true → a.length ≤ 20 := fun h => by have := light_len h; omega
    have hgb := getG_ok b
  all_goals first
    | exact Leaf.mk rfl
    | (have := hla (by assumption); refine Leaf.mk ?_; omega)
    | exact Leaf.mk (light_ok (by assumption))
    | (refine Leaf.mk ?_; omega)
    | exact same_no (by assumption)
    | exact absurd trivial (by assumption)
    | skip
end Go.Proofs.Ytbobjiaggngbmaa
