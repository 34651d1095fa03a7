import Derived.Test.YtkmfjlfejdoehaaGreatQ7
import Derived.Test.YtkmfjlfejdoehaaGreatEng4
import Derived.Test.YtkmfjlfejdoehaaGreatEng5
import Derived.Shelf.Sort.Plain
import Derived.Test.YtkmfjlfejdoehaaGreatProg
/- Texts, one behind the other. -/
set_option linter.unusedVariables false
set_option linter.unusedSimpArgs false
set_option maxRecDepth 8000
set_option maxHeartbeats 4000000
namespace Go.Proofs.YtkmfjlfejdoehaaGreat
open Go.Eng
def badP (a b : Ver) : Bool := (decide (a.2.1 = 0) && (decide (¬ b.2.1 = 0) || decide (a.1 = b.1))) || (decide (¬ b.2.1 = 0) && decide (b.2.1 < a.2.1))
theorem OrdB_iff : ∀ (ys : List Ver) (l : List Int), OrdB ys l ↔ (∀ v ∈ ys, v.2.1 = 0 ∧ v.1 ∉ l) ∧ ys.Pairwise (fun a b => a.1 ≠ b.1)
  | [], l => by simp [OrdB]
  | v :: r, l => by
    rw [OrdB, OrdB_iff r (v.1 :: l), List.pairwise_cons]
    constructor
    · rintro ⟨h1, h2, h3, h4⟩
      refine ⟨fun w hw => ?_, fun w hw hc => (h3 w hw).2 (by simp [hc]), h4⟩
      rcases List.mem_cons.1 hw with rfl | hw
      · exact ⟨h1, h2⟩
      · exact ⟨(h3 w hw).1, fun hc => (h3 w hw).2 (by simp [hc])⟩
    · rintro ⟨h1, h2, h3⟩
      refine ⟨(h1 v (by simp)).1, (h1 v (by simp)).2, fun w hw => ⟨(h1 w (by simp [hw])).1, fun hc => ?_⟩, h3⟩
      rcases List.mem_cons.1 hc with hc | hc
      · exact h2 w hw hc.symm
      · exact (h1 w (by simp [hw])).2 hc
theorem firstZ_at (xs : List Ver) : firstZ xs ≤ xs.length ∧ (firstZ xs < xs.length → (xs.getD (firstZ xs) ver0).2.1 = 0) := by
  have hp := idxF_pos ordered1 xs 0
  unfold firstZ
  split
  · exact ⟨Nat.le_refl _, fun h => absurd h (Nat.lt_irrefl _)⟩
  · refine ⟨by omega, fun _ => ?_⟩
    rcases Go.Eng.idxF_find ver0 ordered1 xs 0 with ⟨h1, _⟩ | ⟨j, h1, h2, h3⟩
    · omega
    · have := List.find?_some h3
      rw [h1, show (((0 : Nat) : Int) + (j : Int)).toNat = j by omega]
      simpa [ordered1] using this
def okP (xs : List Ver) (i : Nat) : Prop := ∀ j, j < i → ∀ k, k < j → badP (xs.getD k ver0) (xs.getD j ver0) = false
theorem bad_false {a b : Ver} : badP a b = false ↔ (a.2.1 = 0 → b.2.1 = 0 ∧ a.1 ≠ b.1) ∧ (b.2.1 ≠ 0 → a.2.1 ≤ b.2.1) := by
  unfold badP
  rw [Bool.or_eq_false_iff, Bool.and_eq_false_iff, Bool.and_eq_false_iff, Bool.or_eq_false_iff]
  simp only [decide_eq_false_iff_not]
  constructor
  · rintro ⟨h1, h2⟩
    refine ⟨fun h => ?_, fun h => ?_⟩
    · rcases h1 with h1 | h1
      · exact absurd h h1
      · exact ⟨Classical.not_not.1 h1.1, h1.2⟩
    · rcases h2 with h2 | h2
      · exact absurd h h2
      · omega
  · rintro ⟨h1, h2⟩
    refine ⟨?_, ?_⟩
    · by_cases h : a.2.1 = 0
      · exact .inr ⟨Classical.not_not.2 (h1 h).1, (h1 h).2⟩
      · exact .inl h
    · by_cases h : b.2.1 = 0
      · exact .inl (Classical.not_not.2 h)
      · exact .inr (by have := h2 h; omega)
theorem ordered_iff {xs : List Ver} : ordered xs = true ↔ okP xs xs.length := by
  have hz := firstZ_at xs
  have hn := firstZ_not xs
  unfold ordered
  rw [decide_eq_true_iff, OrdB_iff]
  constructor
  · rintro ⟨h1, h2, h3⟩ j hj k hk
    have hmem : ∀ i, firstZ xs ≤ i → i < xs.length → (xs.getD i ver0).2.1 = 0 := fun i hi hl => (h2 _ (by
      rw [List.mem_iff_getElem]
      exact ⟨i - firstZ xs, by simp; omega, by simp [List.getD, hl]; congr 1; omega⟩)).1
    rw [bad_false]
    by_cases hjn : j < firstZ xs
    · have hm := OrdA_mono h1 (j - k) k (by omega)
      rw [show k + (j - k) = j by omega] at hm
      exact ⟨fun h => absurd h (hn k (by omega)).2, fun _ => hm⟩
    · have hj0 := hmem j (by omega) hj
      refine ⟨fun h => ⟨hj0, fun hc => ?_⟩, fun h => absurd hj0 h⟩
      have hkn : firstZ xs ≤ k := by
        rcases Nat.lt_or_ge k (firstZ xs) with h4 | h4
        · exact absurd h (hn k h4).2
        · exact h4
      rw [List.pairwise_iff_getElem] at h3
      have := h3 (k - firstZ xs) (j - firstZ xs) (by simp; omega) (by simp; omega) (by omega)
      simp only [List.getElem_drop] at this
      apply this
      have e1 : xs[firstZ xs + (k - firstZ xs)]'(by omega) = xs.getD k ver0 := by simp [List.getD, show k < xs.length by omega]; congr 1; omega
      have e2 : xs[firstZ xs + (j - firstZ xs)]'(by omega) = xs.getD j ver0 := by simp [List.getD, hj]; congr 1; omega
      rw [e1, e2]; exact hc
  · intro h
    have h' : ∀ j, j < xs.length → ∀ k, k < j → _ := fun j hj k hk => bad_false.1 (h j hj k hk)
    have hmem : ∀ i, firstZ xs ≤ i → i < xs.length → (xs.getD i ver0).2.1 = 0 := fun i hi hl => by
      rcases Nat.lt_or_ge (firstZ xs) i with h4 | h4
      · exact ((h' i hl (firstZ xs) h4).1 (hz.2 (by omega))).1
      · have : i = firstZ xs := by omega
        subst this; exact hz.2 hl
    refine ⟨fun j hj h1 => (h' j (by omega) (j - 1) (by omega)).2 (hn j hj).2, fun v hv => ⟨?_, by simp⟩, ?_⟩
    · rw [List.mem_iff_getElem] at hv
      obtain ⟨i, hi, rfl⟩ := hv
      simp at hi
      have := hmem (firstZ xs + i) (by omega) (by omega)
      simpa [List.getD, show firstZ xs + i < xs.length by omega] using this
    · rw [List.pairwise_iff_getElem]
      intro i j hi hj hij hc
      simp at hi hj
      simp only [List.getElem_drop] at hc
      have e1 : xs[firstZ xs + i]'(by omega) = xs.getD (firstZ xs + i) ver0 := by simp [List.getD, show firstZ xs + i < xs.length by omega]
      have e2 : xs[firstZ xs + j]'(by omega) = xs.getD (firstZ xs + j) ver0 := by simp [List.getD, show firstZ xs + j < xs.length by omega]
      rw [e1, e2] at hc
      exact ((h' (firstZ xs + j) (by omega) (firstZ xs + i) (by omega)).1 (hmem _ (by omega) (by omega))).2 hc
def sSPutR : PSpec := sSPut
end Go.Proofs.YtkmfjlfejdoehaaGreat

set_option linter.unusedVariables false
set_option linter.unusedSimpArgs false
set_option maxRecDepth 8000
set_option maxHeartbeats 4000000
namespace Go.Proofs.YtkmfjlfejdoehaaGreat
open Go.Eng
theorem rdSmall_suf (b : List Int) (e : Int) : (rdSmall b e).2.1 <:+ b := by
  unfold rdSmall
  repeat' split
  all_goals first | exact List.suffix_refl _ | exact List.drop_suffix _ _
theorem rdText_suf (b : List Int) (e m : Int) : (rdText b e m).2.1 <:+ b := by
  unfold rdText
  generalize (if 0 < m then m else 0) = mm
  repeat' split
  all_goals first | exact List.suffix_refl _ | exact List.drop_suffix _ _
theorem suf_len {a b : List Int} (h : a <:+ b) : a.length ≤ b.length := h.length_le
theorem suf_cut {R b : List Int} (h : R <:+ b) : (List.take b.length b).drop ((b.length : Int) - (R.length : Int)).toNat = R := by
  have := h.length_le
  rw [List.take_length, show ((b.length : Int) - (R.length : Int)).toNat = b.length - R.length by omega]
  exact (List.suffix_iff_eq_drop.1 h).symm
theorem flat_split {l : List Ver} {i : Nat} (h : i < l.length) (r : List Int) : (l.drop i).flatMap putV ++ r = putSmall (l.getD i ver0).1 ++ (putSmall (l.getD i ver0).2.1 ++ ((if (l.getD i ver0).2.2.1 = true then 1 else 0) :: (putText (l.getD i ver0).2.2.2 ++ ((l.drop (i + 1)).flatMap putV ++ r)))) := by
  rw [drop_at ver0 h]
  simp [putV]
def sSGet : PSpec := ⟨[.d BT], [⟨true, [.d StT]⟩, ⟨false, [.d (.int .i64)]⟩], fun x => List.length (α := Int) x.1 ≤ 100000, fun x => (((getS x.1).1, ()), ((getS x.1).2, ()), ())⟩
theorem retG {u v : Stk × Int} (h : u = v) : (some ((u.1, ()), (u.2, ()), ()) : Option ((Stk × Unit) × (Int × Unit) × Unit)) = some ((v.1, ()), (v.2, ()), ()) := by rw [h]
theorem putR11_zero {s : Stk} (h : (putR11 s).2 = 0) : check s = 0 ∧ (putR11 s).1 = putS s := by
  unfold putR11 at h ⊢
  split at h
  · rename_i hc; rw [if_pos hc]; exact ⟨hc, rfl⟩
  · rename_i hc; exact absurd h hc
theorem putR11_not {s : Stk} (h : ¬ (putR11 s).2 = 0) : ¬ check s = 0 := fun hc => h (by unfold putR11; rw [if_pos hc])
theorem fSGet : FnOk Tryz.prog 98 := ⟨_, Tryz.func98, by decide, rfl⟩
theorem pSGet : PSound Tryz.prog 98 sSGet := by
  refine psound (T := tab) (S := (spOf [(95, sNew.spec (lsOf [])), (162, sText.spec), (96, sSmall.spec), (97, sLeft.spec), (163, sDone.spec), (157, sSPut.spec (lsOf [])), (99, sBEqual.spec (lsOf []))])) (keep := k98) (by kernel_rfl) tabOk (spCons (.inl ⟨nOk lsNil pNew, fNew⟩) (spCons (.inl ⟨pText, fText⟩) (spCons (.inl ⟨pSmall, fSmall⟩) (spCons (.inl ⟨pLeft, fLeft⟩) (spCons (.inl ⟨pDone, fDone⟩) (spCons (pOk pSPut fSPut (by decide) lsNil) (spCons (pOk pBEqual fBEqual (by decide) lsNil) spNil))))))) (by kernel_rfl) Tryz.func98 (by kernel_rfl) (by decide) fun xs hg hp => ?_
  obtain ⟨b, ⟨⟩⟩ := xs
  obtain ⟨⟨-, hx⟩, -⟩ := hg
  change List Int at b
  change b.length ≤ 100000 at hp
  have hB : isB b := isB_good hx
  clear hx
  have hb1 := rdText_suf b 0 16
  have hb2 := rdSmall_suf (rdText b 0 16).2.1 (rdText b 0 16).2.2
  have hl1 := suf_len hb1
  have hl2 := suf_len hb2
  show vfun tab _ k98 Tryz.f98 [.sl (.int .u8) b] [] _
  refine Ev.out ?_
  repeat' (first | ((with_reducible refine Ev.mk ?_); conv => whnf) | (with_reducible refine And.intro ?_ ?_) | (intro h))
  all_goals (try simp only [decide_eq_true_eq, decide_eq_false_iff_not, beq_iff_eq, bne_iff_ne, beq_eq_false_iff_ne, bne_eq_false_iff_eq, Int.toNat_natCast, ge_iff_le, gt_iff_lt, Bool.not_eq_true', Bool.not_eq_false', Int.not_lt, Int.not_le, ne_eq] at *)
  all_goals (try dsimp only [Ty.den, Ty.dflt, VerT, sNew, sText, sSmall] at *)
  all_goals (try simp only [eq4, ne4, eq3, ne3, eq2, ne2, Prod.eta, List.length_cons, List.length_nil, List.length_append, Nat.zero_add] at *)
  all_goals (try simp (disch := omega) only [wrap64] at *)
  all_goals try first | exact leafDraw (by kernel_rfl) | exact Leaf.mk trivial | (refine Leaf.mk ?_; omega) | (refine Leaf.mk ?_; unfold maxLen; omega)
  generalize hN : (if 9 < (rdSmall (rdText b 0 16).2.1 (rdText b 0 16).2.2).1 then 9 else (rdSmall (rdText b 0 16).2.1 (rdText b 0 16).2.2).1) = N
  have hN9 : N ≤ 9 := by rw [← hN]; split <;> omega
  generalize hkey : (rdText b 0 16).1 = key
  generalize hb0 : (rdSmall (rdText b 0 16).2.1 (rdText b 0 16).2.2).2.1 = b0 at *
  generalize he0 : (rdSmall (rdText b 0 16).2.1 (rdText b 0 16).2.2).2.2 = e0
  have h0 : ∀ s, check s = 0 → putS s = b → key = s.1 ∧ N = s.2.length ∧ b0 = s.2.flatMap putV ∧ e0 = 0 := fun s hs hb => by
    have ok := check_ok.1 hs
    have h1 : rdText b 0 16 = (s.1, putSmall s.2.length ++ s.2.flatMap putV, 0) := by
      rw [← hb]; exact rdText_put (by have := ok.key; omega) _
    have h2 := rdSmall_put (n := s.2.length) (by omega) (by have := ok.len; omega) (s.2.flatMap putV)
    rw [h1] at hkey hb0 he0 hN
    dsimp only at hkey hb0 he0 hN
    rw [h2] at hb0 he0 hN
    dsimp only at hkey hb0 he0 hN
    have := ok.len
    exact ⟨hkey.symm, by rw [← hN, if_neg (by omega)], hb0.symm, he0.symm⟩
  refine LoopVC.weak [(.cell 2 1, .nil 121 VerT)] (fun a : Nat × List Int × Int × List Ver => [(18, .i .i64 a.1)]) (fun a => [(1, .box [.sl (.int .u8) a.2.1, .i .i64 a.2.2.1]), (3, .arr 121 VerT a.2.2.2)]) (fun a => a.1 ≤ 9 ∧ a.2.1 <:+ b ∧ a.2.2.2.length = a.1 ∧ ∀ s, check s = 0 → putS s = b → N = s.2.length ∧ key = s.1 ∧ a.1 ≤ s.2.length ∧ a.2.1 = (s.2.drop a.1).flatMap putV ∧ a.2.2.1 = 0 ∧ a.2.2.2 = s.2.take a.1) (fun a => 9 - a.1) (0, b0, e0, []) (Ev.mk ?_)
  (conv => whnf)
  refine ⟨Leaf.mk ?_, Leaf.mk ?_, ?_⟩
  · rfl
  · refine ⟨by simp, hb2.trans hb1, rfl, fun s hs hb => ?_⟩
    obtain ⟨h1, h2, h3, h4⟩ := h0 s hs hb
    exact ⟨h2, h1, Nat.zero_le _, h3, h4, rfl⟩
  intro ⟨i, rb, re, vs⟩ ⟨hi, hrb, hvl, hv⟩
  dsimp only at hi hrb hvl hv ⊢
  have hrl := suf_len hrb
  have hs1 := rdSmall_suf rb re
  have hs2 := rdSmall_suf (rdSmall rb re).2.1 (rdSmall rb re).2.2
  have hs3 := fun l => suf_len (rdText_suf l 0 24)
  have hs1l := suf_len hs1
  have hs2l := suf_len hs2
  repeat' (first | ((with_reducible refine Ev.mk ?_); conv => whnf) | (with_reducible refine And.intro ?_ ?_) | (intro h))
  all_goals (try simp only [decide_eq_true_eq, decide_eq_false_iff_not, beq_iff_eq, bne_iff_ne, beq_eq_false_iff_ne, bne_eq_false_iff_eq, Int.toNat_natCast, ge_iff_le, gt_iff_lt, Bool.not_eq_true', Bool.not_eq_false', Int.not_lt, Int.not_le, ne_eq] at *)
  all_goals (try dsimp only [Ty.den, Ty.dflt, VerT, sNew, sText, sSmall, sLeft, sDone] at *)
  all_goals (try simp only [eq4, ne4, eq3, ne3, eq2, ne2, Prod.eta, List.length_cons, List.length_nil, List.length_append, Nat.zero_add] at *)
  all_goals (try simp (disch := omega) only [wrap64] at *)
  all_goals try first | exact leafDraw (by kernel_rfl) | exact Leaf.mk trivial | (refine Leaf.mk ?_; omega) | (refine Leaf.mk ?_; unfold maxLen; omega)
  all_goals
    have hcut := suf_cut ((hs2.trans hs1).trans hrb)
    simp only [hcut] at *
    generalize hR : (rdSmall (rdSmall rb re).2.1 (rdSmall rb re).2.2).2.1 = R at *
  all_goals (try simp only [List.take_length, Int.reduceToNat] at *)
  -- what a stack's bytes would have been read as
  all_goals
    have hgo : ∀ s, check s = 0 → putS s = b → i < s.2.length → (rdSmall rb re).1 = (s.2.getD i ver0).1 ∧ (rdSmall (rdSmall rb re).2.1 (rdSmall rb re).2.2).1 = (s.2.getD i ver0).2.1 ∧ (rdSmall (rdSmall rb re).2.1 (rdSmall rb re).2.2).2.2 = 0 ∧ R = (if (s.2.getD i ver0).2.2.1 = true then 1 else 0) :: (putText (s.2.getD i ver0).2.2.2 ++ (s.2.drop (i + 1)).flatMap putV) := fun s hs hb hil => by
      obtain ⟨k1, k2, k3, k4, k5, k6⟩ := hv s hs hb
      have ok := (check_ok.1 hs).all _ (getD_mem ver0 hil)
      have e := flat_split hil []
      rw [List.append_nil, List.append_nil] at e
      have e1 : rdSmall rb re = ((s.2.getD i ver0).1, putSmall (s.2.getD i ver0).2.1 ++ ((if (s.2.getD i ver0).2.2.1 = true then 1 else 0) :: (putText (s.2.getD i ver0).2.2.2 ++ (s.2.drop (i + 1)).flatMap putV)), 0) := by
        rw [k4, k5, e]; exact rdSmall_put ok.txn.1 ok.txn.2 _
      rw [e1] at hR ⊢
      dsimp only at hR ⊢
      rw [rdSmall_put ok.ts.1 ok.ts.2] at hR ⊢
      exact ⟨rfl, rfl, rfl, hR.symm⟩
  all_goals (try have hlt : (i : Int) < N := by rw [← hN]; assumption)
  all_goals (try have hge : N ≤ (i : Int) := by rw [← hN]; assumption)
  · refine Leaf.mk (retG (u := (([], []), 4)) (v := getS b) ?_)
    rw [getS_not fun s hs hb => ?_]
    have hil := (hv s hs hb).1
    have := (hgo s hs hb (by omega)).2.2.2
    rw [this] at h
    simp at h
    omega
  · rename_i hdone
    refine Leaf.mk (retG (u := (([], []), 4)) (v := getS b) ?_)
    rw [getS_not fun s hs hb => ?_]
    have hil := (hv s hs hb).1
    obtain ⟨_, _, k3, k4⟩ := hgo s hs hb (by omega)
    have hd : ∀ x : Int, (if ¬ (rdSmall (rdSmall rb re).2.1 (rdSmall rb re).2.2).2.2 = 0 then x else if R.length = 0 then 0 else 4) = 4 := fun x => by
      rw [if_neg (fun hc => hc k3), if_neg (by omega)]
    exact hdone (hd _)
  · exact Leaf.mk (by rw [List.length_drop]; omega)
  · exact Leaf.mk (by rw [List.length_drop]; omega)
  · refine Leaf.mk ⟨(i + 1, _, _, _), rfl, ⟨by show i + 1 ≤ 9; omega, ?_, by simp; omega, fun s hs hb => ?_⟩, by show 9 - (i + 1) < _; omega⟩
    · exact (rdText_suf _ _ _).trans ((List.drop_suffix _ _).trans ((hs2.trans hs1).trans hrb))
    · obtain ⟨k1, k2, k3, k4, k5, k6⟩ := hv s hs hb
      have hil : i < s.2.length := by omega
      obtain ⟨m1, m2, m3, m4⟩ := hgo s hs hb hil
      have ok := (check_ok.1 hs).all _ (getD_mem ver0 hil)
      have e1 : rdText (R.drop 1) 0 24 = ((s.2.getD i ver0).2.2.2, (s.2.drop (i + 1)).flatMap putV, 0) := by
        rw [m4, List.drop_one, List.tail_cons]
        exact rdText_put (by have := ok.val; omega) _
      dsimp only
      rw [e1]
      refine ⟨k1, k2, by omega, rfl, rfl, ?_⟩
      rw [take_at ver0 hil, k6, m1, m2]
      have hg : (R.getD 0 0 == 1) = (s.2.getD i ver0).2.2.1 := by
        rw [m4]
        cases (s.2.getD i ver0).2.2.1 <;> rfl
      rw [hg]
  all_goals
    have hsame : ∀ s, check s = 0 → putS s = b → (key, vs) = s := fun s hs hb => by
      obtain ⟨k1, k2, k3, k4, k5, k6⟩ := hv s hs hb
      rw [k2, k6, List.take_of_length_le (by omega)]
  · refine Leaf.mk (retG (u := (([], []), 4)) (v := getS b) ?_)
    rw [getS_not fun s hs hb => ?_]
    exact putR11_not h (by rw [hsame s hs hb]; exact hs)
  · rename_i h0
    obtain ⟨k1, k2⟩ := putR11_zero h0
    refine Leaf.mk (retG (u := (([], []), 4)) (v := getS b) ?_)
    rw [getS_not fun s hs hb => ?_]
    have h : (strOfBytes b == strOfBytes (putR11 (key, vs)).1) = false := h
    rw [k2, hsame s hs hb, hb] at h
    exact eqSelf h
  · rename_i h0
    obtain ⟨k1, k2⟩ := putR11_zero h0
    have h : (strOfBytes b == strOfBytes (putR11 (key, vs)).1) = true := h
    rw [k2, beq_iff_eq] at h
    refine Leaf.mk (retG (u := ((key, vs), 0)) (v := getS b) ?_)
    rw [getS_put k1 (str_inj hB (isB_S _) h).symm]
end Go.Proofs.YtkmfjlfejdoehaaGreat

set_option linter.unusedVariables false
set_option linter.unusedSimpArgs false
set_option maxRecDepth 8000
set_option maxHeartbeats 4000000
namespace Go.Proofs.YtkmfjlfejdoehaaGreat
open Go.Eng
def abort (s : Stk) (me : Int) : Stk := (s.1, s.2.filter (fun v => !roomP me v))
theorem fAbort1 : FnOk Tryz.prog 188 := ⟨_, Tryz.func188, by decide, rfl⟩
noncomputable def iAbort1 : Eng.Spec := inl tab (spOf []) k188 Tryz.f188
theorem pAbort1 : SpecOk Tryz.prog 188 iAbort1 := inl_ok tabOk spNil (by kernel_rfl) Tryz.func188 (by kernel_rfl)
theorem fWithoutA : FnOk Tryz.prog 187 := ⟨_, Tryz.func187, by decide, rfl⟩
noncomputable def iWithoutA : Eng.Spec := inl tab (spOf [(188, iAbort1)]) k187 Tryz.f187
theorem pWithoutA : SpecOk Tryz.prog 187 iWithoutA := inl_ok tabOk (spCons (.inl ⟨pAbort1, fAbort1⟩) spNil) (by kernel_rfl) Tryz.func187 (by kernel_rfl)
def sAbort : PSpec := ⟨[.d StT, .d (.int .i64)], [⟨true, [.d .str, .o 121 VerT]⟩], fun x => List.length x.1.2 ≤ 100000, fun x => (((abort x.1 x.2.1).1, ((abort x.1 x.2.1).2, ())), ())⟩
theorem fAbort : FnOk Tryz.prog 131 := ⟨_, Tryz.func131, by decide, rfl⟩
theorem pAbort : PSound Tryz.prog 131 sAbort := by
  refine psound (T := tab) (S := (spOf [(187, iWithoutA)])) (keep := k131) (by kernel_rfl) tabOk (spCons (.inl ⟨pWithoutA, fWithoutA⟩) spNil) (by kernel_rfl) Tryz.func131 (by kernel_rfl) (by decide) fun xs hg hp => ?_
  obtain ⟨⟨key, xs⟩, me, ⟨⟩⟩ := xs
  change List UInt8 at key
  change List Ver at xs
  change Int at me
  change xs.length ≤ 100000 at hp
  show vfun tab _ k131 Tryz.f131 [.agg [.s key, .sl VerT xs], .i .i64 me] [] _
  refine Ev.out ?_
  repeat' (first | ((with_reducible refine Ev.mk ?_); conv => whnf) | (with_reducible refine And.intro ?_ ?_) | (intro h))
  all_goals (try simp only [decide_eq_true_eq, decide_eq_false_iff_not, beq_iff_eq, bne_iff_ne, beq_eq_false_iff_ne, bne_eq_false_iff_eq, Int.toNat_natCast, ge_iff_le, gt_iff_lt, Bool.not_eq_true', Bool.not_eq_false', Int.not_lt, Int.not_le, ne_eq] at *)
  all_goals (try dsimp only [Ty.den, Ty.dflt, VerT] at *)
  all_goals (try simp only [eq4, ne4, eq3, ne3, eq2, ne2, Prod.eta, List.length_cons, List.length_nil, List.length_append, Nat.zero_add] at *)
  all_goals (try simp (disch := omega) only [wrap64] at *)
  all_goals try first | exact leafDraw (by kernel_rfl) | exact Leaf.mk trivial | (refine Leaf.mk ?_; omega) | (refine Leaf.mk ?_; unfold maxLen; omega)
  refine LoopVC.weak [(.slot 5, .nil 121 VerT)] (fun i : Nat => [(10, .i .i64 i)]) (fun i => [(27, .arr 121 VerT ((xs.take i).filter (fun v => !roomP me v)))]) (fun i => i ≤ xs.length) (fun i => xs.length - i) 0 (Ev.mk ?_)
  (conv => whnf)
  refine ⟨Leaf.mk rfl, Leaf.mk ?_, ?_⟩
  · omega
  intro i hi
  have hk := length_filter_take (xs := xs) (i := i) (p := fun v => !roomP me v)
  repeat' (first | ((with_reducible refine Ev.mk ?_); conv => whnf) | (with_reducible refine And.intro ?_ ?_) | (intro h))
  all_goals (try simp only [decide_eq_true_eq, decide_eq_false_iff_not, beq_iff_eq, bne_iff_ne, beq_eq_false_iff_ne, bne_eq_false_iff_eq, Int.toNat_natCast, ge_iff_le, gt_iff_lt, Bool.not_eq_true', Bool.not_eq_false', Int.not_lt, Int.not_le, ne_eq] at *)
  all_goals (try dsimp only [Ty.den, Ty.dflt, VerT] at *)
  all_goals (try simp only [eq4, ne4, eq3, ne3, eq2, ne2, Prod.eta, List.length_cons, List.length_nil, List.length_append, Nat.zero_add] at *)
  all_goals (try simp (disch := omega) only [wrap64] at *)
  all_goals try first | exact leafDraw (by kernel_rfl) | exact Leaf.mk trivial | (refine Leaf.mk ?_; omega) | (refine Leaf.mk ?_; unfold maxLen; omega)
  all_goals have hk := length_filter_take (xs := xs) (i := i) (p := fun v => !roomP me v)
  all_goals first
    | exact Leaf.mk (show (((xs.take i).filter (fun v => !roomP me v)).length + 1) * 40 ≤ 140737488355328 by omega)
    | exact Leaf.mk (show ((xs.take i).filter (fun v => !roomP me v)).length + 1 ≤ maxLen by unfold maxLen; omega)
    | (have hil : i = xs.length := by omega
       subst hil
       refine Leaf.mk (retS (s := abort (key, xs) me) ?_)
       rw [abort, List.take_length])
    | (refine Leaf.mk ⟨i + 1, ?_, by omega, by omega⟩
       rw [filter_at ver0 (by omega)]
       first
       | (rw [if_pos (show (!roomP me (xs.getD i ver0)) = true from ?_)]
          · rfl
          · rw [Bool.not_eq_true', ← Bool.not_eq_true]
            intro hc
            simp only [roomP, ver0, Bool.and_eq_true, beq_iff_eq] at hc
            first | exact h hc.1 | exact h hc.2)
       | (rw [if_neg (show ¬ (!roomP me (xs.getD i ver0)) = true from ?_), List.append_nil]
          · rfl
          · rw [Bool.not_eq_true', Bool.not_eq_false]
            simp only [roomP, ver0, Bool.and_eq_true, beq_iff_eq]
            exact ⟨‹_›, ‹_›⟩))
theorem light_of {s : Stk} (h : light s = true) : s.1.length ≤ 100 ∧ s.2.length ≤ 12 := by
  unfold light at h
  rw [Bool.and_eq_true, Bool.and_eq_true] at h
  exact ⟨of_decide_eq_true h.1, of_decide_eq_true h.2.1⟩
end Go.Proofs.YtkmfjlfejdoehaaGreat

set_option linter.unusedVariables false
set_option linter.unusedSimpArgs false
set_option maxRecDepth 8000
set_option maxHeartbeats 4000000
namespace Go.Proofs.YtkmfjlfejdoehaaGreat
open Go.Eng
def one (s : Stk) : List Int := putSmall ((putR11 s).1.length : Nat) ++ (putR11 s).1
def layF (l : List Stk) : List Int := putSmall (l.length : Nat) ++ l.flatMap one
def sizeF (l : List Stk) : Nat := (layF l).length
theorem putR_len (s : Stk) : (putR11 s).1.length ≤ 595 := by
  unfold putR11
  split
  · exact putS_len ‹_›
  · exact Nat.zero_le _
theorem one_len (s : Stk) : (one s).length ≤ 604 := by
  have h1 := putR_len s
  have h2 := putSmall_len ((putR11 s).1.length : Nat)
  rw [one, List.length_append]; omega
theorem flat_lenS {α β : Type} (f : β → List α) (m : Nat) (h : ∀ v, (f v).length ≤ m) : ∀ (l : List β), (l.flatMap f).length ≤ l.length * m
  | [] => by simp
  | v :: r => by
    have := flat_lenS f m h r
    have := h v
    rw [List.flatMap_cons, List.length_append, List.length_cons, Nat.succ_mul]; omega
def sOne : PSpec := ⟨[.d StT], [⟨false, [.o 5 (.int .u8)]⟩], fun _ => True, fun x => ((one x.1, ()), ())⟩
def sOneR : PSpec := sOne
def sLay14 : PSpec := ⟨[.d (.slice StT)], [⟨false, [.o 5 (.int .u8)]⟩], fun x => List.length x.1 ≤ 100000, fun x => ((layF x.1, ()), ())⟩
theorem fOne : FnOk Tryz.prog 93 := ⟨_, Tryz.func93, by decide, rfl⟩
theorem pOne : PSound Tryz.prog 93 sOne := by
  refine psound (T := tab) (S := (spOf [(157, sSPut.spec (lsOf [])), (153, sPutSmall.spec (lsOf []))])) (keep := k93) (by kernel_rfl) tabOk (spCons (pOk pSPut fSPut (by decide) lsNil) (spCons (pOk pPutSmall fPutSmall (by decide) lsNil) spNil)) (by kernel_rfl) Tryz.func93 (by kernel_rfl) (by decide) fun xs hg hp => ?_
  obtain ⟨⟨key, xs⟩, ⟨⟩⟩ := xs
  change List UInt8 at key
  change List Ver at xs
  clear hp hg
  show vfun tab _ k93 Tryz.f93 [.agg [.s key, .sl VerT xs]] [] _
  refine Ev.out ?_
  repeat' (first | ((with_reducible refine Ev.mk ?_); conv => whnf) | (with_reducible refine And.intro ?_ ?_) | (intro h))
  all_goals (try simp only [decide_eq_true_eq, decide_eq_false_iff_not, beq_iff_eq, bne_iff_ne, beq_eq_false_iff_ne, bne_eq_false_iff_eq, Int.toNat_natCast, ge_iff_le, gt_iff_lt, Bool.not_eq_true', Bool.not_eq_false', Int.not_lt, Int.not_le, ne_eq] at *)
  all_goals (try dsimp only [Ty.den, Ty.dflt, VerT, sPutSmall, sPutSmallR] at *)
  all_goals (try simp only [eq4, ne4, eq3, ne3, eq2, ne2, Prod.eta, List.length_cons, List.length_nil, List.length_append, Nat.zero_add] at *)
  all_goals (try simp (disch := omega) only [wrap64] at *)
  all_goals try first | exact leafDraw (by kernel_rfl) | exact Leaf.mk trivial | (refine Leaf.mk ?_; omega) | (refine Leaf.mk ?_; unfold maxLen; omega)
  all_goals
    have h1 := putR_len (key, xs)
    have h2 := putSmall_len ((putR11 (key, xs)).1.length : Nat)
    try rw [show (sSPut.fn ((key, xs), ())).1.1 = (putR11 (key, xs)).1 from rfl]
    try rw [show (sSPutR.fn ((key, xs), ())).1.1 = (putR11 (key, xs)).1 from rfl]
    try rw [wrapu (by omega)]
  all_goals first
    | (refine Leaf.mk ?_; omega)
    | (refine Leaf.mk ?_; unfold maxLen; omega)
    | exact Leaf.mk (ret1 rfl)
theorem fLay14 : FnOk Tryz.prog 88 := ⟨_, Tryz.func88, by decide, rfl⟩
theorem pLay14 : PSound Tryz.prog 88 sLay14 := by
  refine psound (T := tab) (S := (spOf [(93, sOne.spec (lsOf [])), (153, sPutSmall.spec (lsOf []))])) (keep := k88) (by kernel_rfl) tabOk (spCons (pOk pOne fOne (by decide) lsNil) (spCons (pOk pPutSmall fPutSmall (by decide) lsNil) spNil)) (by kernel_rfl) Tryz.func88 (by kernel_rfl) (by decide) fun xs hg hp => ?_
  obtain ⟨xs, ⟨⟩⟩ := xs
  change List Stk at xs
  change xs.length ≤ 100000 at hp
  clear hg
  show vfun tab _ k88 Tryz.f88 [.sl StT xs] [] _
  refine Ev.out ?_
  repeat' (first | ((with_reducible refine Ev.mk ?_); conv => whnf) | (with_reducible refine And.intro ?_ ?_) | (intro h))
  all_goals (try simp only [decide_eq_true_eq, decide_eq_false_iff_not, beq_iff_eq, bne_iff_ne, beq_eq_false_iff_ne, bne_eq_false_iff_eq, Int.toNat_natCast, ge_iff_le, gt_iff_lt, Bool.not_eq_true', Bool.not_eq_false', Int.not_lt, Int.not_le, ne_eq] at *)
  all_goals (try dsimp only [Ty.den, Ty.dflt, StT, sPutSmall, sPutSmallR] at *)
  all_goals (try simp only [eq4, ne4, eq3, ne3, eq2, ne2, Prod.eta, List.length_cons, List.length_nil, List.length_append, Nat.zero_add] at *)
  all_goals (try simp (disch := omega) only [wrap64] at *)
  all_goals try first | exact leafDraw (by kernel_rfl) | exact Leaf.mk trivial | (refine Leaf.mk ?_; omega) | (refine Leaf.mk ?_; unfold maxLen; omega)
  have h2 := putSmall_len (xs.length : Nat)
  rw [wrapu (by omega)]
  refine LoopVC.on (fun i : Nat => [(12, .i .i64 i)]) (fun i => [(0, .arr 5 (.int .u8) (putSmall xs.length ++ (xs.take i).flatMap one))]) (fun i => i ≤ xs.length) (fun i => xs.length - i) 0 (by simp only [List.take_zero, List.flatMap_nil, List.append_nil]; rfl) (by omega) ?_
  intro i hi
  have hfl := flat_lenS one 604 one_len (xs.take i)
  have htl : (xs.take i).length ≤ 100000 := by rw [List.length_take]; omega
  have h1 := one_len (xs.getD i ([], []))
  repeat' (first | ((with_reducible refine Ev.mk ?_); conv => whnf) | (with_reducible refine And.intro ?_ ?_) | (intro h))
  all_goals (try simp only [decide_eq_true_eq, decide_eq_false_iff_not, beq_iff_eq, bne_iff_ne, beq_eq_false_iff_ne, bne_eq_false_iff_eq, Int.toNat_natCast, ge_iff_le, gt_iff_lt, Bool.not_eq_true', Bool.not_eq_false', Int.not_lt, Int.not_le, ne_eq] at *)
  all_goals (try dsimp only [Ty.den, Ty.dflt, StT, sOne, sOneR] at *)
  all_goals (try simp only [eq4, ne4, eq3, ne3, eq2, ne2, Prod.eta, List.length_cons, List.length_nil, List.length_append, Nat.zero_add] at *)
  all_goals (try simp (disch := omega) only [wrap64] at *)
  all_goals try first | exact leafDraw (by kernel_rfl) | exact Leaf.mk trivial | (refine Leaf.mk ?_; omega) | (refine Leaf.mk ?_; unfold maxLen; omega)
  all_goals try first
    | (refine Leaf.mk ?_; omega)
    | (refine Leaf.mk ?_; unfold maxLen; omega)
  · refine Leaf.mk ⟨i + 1, ?_, by omega, by omega⟩
    rw [flatMap_at ([], []) (by omega), ← List.append_assoc]; rfl
  · refine Leaf.mk (ret1 (show _ = layF xs from ?_))
    rw [List.take_of_length_le (by omega)]; rfl
def lightL (l : List Stk) (most : Int) : Bool := decide ((l.length : Int) ≤ most) && l.all light
def sLight14 : PSpec := ⟨[.d (.slice StT), .d (.int .i64)], [⟨false, [.d .bool]⟩], fun _ => True, fun x => ((lightL x.1 x.2.1, ()), ())⟩
theorem all_at {α : Type} {p : α → Bool} {xs : List α} {i : Nat} (d : α) (h : i < xs.length) : (xs.take (i + 1)).all p = ((xs.take i).all p && p (xs.getD i d)) := by
  rw [take_at d h, List.all_append]; simp
theorem all_no {α : Type} {p : α → Bool} {xs : List α} {i : Nat} (d : α) (h : i < xs.length) (hn : p (xs.getD i d) = false) : xs.all p = false := by
  have : ¬ xs.all p = true := fun hc => by
    rw [List.all_eq_true] at hc
    have := hc _ (getD_mem d h)
    rw [hn] at this; exact absurd this (by simp)
  simpa using this
theorem fLight14 : FnOk Tryz.prog 10 := ⟨_, Tryz.func10, by decide, rfl⟩
theorem pLight14 : PSound Tryz.prog 10 sLight14 := by
  refine psound (T := tab) (S := (spOf [(36, sLight.spec (lsOf []))])) (keep := k10) (by kernel_rfl) tabOk (spCons (pOk pLight fLight (by decide) lsNil) spNil) (by kernel_rfl) Tryz.func10 (by kernel_rfl) (by decide) fun xs hg hp => ?_
  obtain ⟨xs, most, ⟨⟩⟩ := xs
  obtain ⟨⟨hl, -⟩, -⟩ := hg
  change List Stk at xs
  change Int at most
  change xs.length ≤ _ at hl
  have hl := len63 hl
  clear hp
  show vfun tab _ k10 Tryz.f10 [.sl StT xs, .i .i64 most] [] _
  refine Ev.out ?_
  repeat' (first | ((with_reducible refine Ev.mk ?_); conv => whnf) | (with_reducible refine And.intro ?_ ?_) | (intro h))
  all_goals (try simp only [decide_eq_true_eq, decide_eq_false_iff_not, beq_iff_eq, bne_iff_ne, beq_eq_false_iff_ne, bne_eq_false_iff_eq, Int.toNat_natCast, ge_iff_le, gt_iff_lt, Bool.not_eq_true', Bool.not_eq_false', Int.not_lt, Int.not_le, ne_eq] at *)
  all_goals (try dsimp only [Ty.den, Ty.dflt, StT] at *)
  all_goals (try simp only [eq4, ne4, eq3, ne3, eq2, ne2, Prod.eta, List.length_cons, List.length_nil, List.length_append, Nat.zero_add] at *)
  all_goals (try simp (disch := omega) only [wrap64] at *)
  · refine Leaf.mk (ret1 (show false = lightL xs most from ?_))
    rw [lightL, decide_eq_false (by omega), Bool.false_and]
  refine LoopVC.on (fun i : Nat => [(5, .i .i64 i)]) (fun _ => []) (fun i => i ≤ xs.length ∧ (xs.take i).all light = true) (fun i => xs.length - i) 0 rfl ⟨by omega, rfl⟩ ?_
  intro i ⟨hi, he⟩
  repeat' (first | ((with_reducible refine Ev.mk ?_); conv => whnf) | (with_reducible refine And.intro ?_ ?_) | (intro h))
  all_goals (try simp only [decide_eq_true_eq, decide_eq_false_iff_not, beq_iff_eq, bne_iff_ne, beq_eq_false_iff_ne, bne_eq_false_iff_eq, Int.toNat_natCast, ge_iff_le, gt_iff_lt, Bool.not_eq_true', Bool.not_eq_false', Int.not_lt, Int.not_le, ne_eq] at *)
  all_goals (try dsimp only [Ty.den, Ty.dflt, StT, sLight] at *)
  all_goals (try simp only [eq4, ne4, eq3, ne3, eq2, ne2, Prod.eta, List.length_cons, List.length_nil, List.length_append, Nat.zero_add] at *)
  all_goals (try simp (disch := omega) only [wrap64] at *)
  all_goals try first | exact leafDraw (by kernel_rfl) | exact Leaf.mk trivial | (refine Leaf.mk ?_; omega) | (refine Leaf.mk ?_; unfold maxLen; omega)
  · refine Leaf.mk (ret1 (show false = lightL xs most from ?_))
    rw [lightL, all_no ([], []) (by omega) h, Bool.and_false]
  · refine Leaf.mk ⟨i + 1, rfl, ⟨by omega, ?_⟩, by omega⟩
    rw [all_at ([], []) (by omega), he, Bool.true_and]; exact h
  · refine Leaf.mk (ret1 (show true = lightL xs most from ?_))
    rw [List.take_of_length_le (by omega)] at he
    rw [lightL, he, Bool.and_true, decide_eq_true (by omega)]
end Go.Proofs.YtkmfjlfejdoehaaGreat

set_option linter.unusedVariables false
set_option linter.unusedSimpArgs false
set_option maxRecDepth 8000
set_option maxHeartbeats 4000000
namespace Go.Proofs.YtkmfjlfejdoehaaGreat
open Go.Eng
abbrev stk0 : Stk := ([], [])
def emptyS (s : Stk) : Bool := ((s.2.length : Nat) : Int) == 0
def sIndexFuncT : PSpec := ⟨[.d (.slice StT), .lam StT .bool], [⟨false, [.d (.int .i64)]⟩], fun _ => True, fun x => ((idxF x.2.1 x.1 0, ()), ())⟩
theorem fIndexFuncT : FnOk Tryz.prog 148 := ⟨_, Tryz.func148, by decide, rfl⟩
theorem pIndexFuncT : PSound Tryz.prog 148 sIndexFuncT := by
  refine psound (T := tab) (S := (spOf [])) (keep := k148) (by kernel_rfl) tabOk spNil (by kernel_rfl) Tryz.func148 (by kernel_rfl) (by decide) fun xs hg hp => ?_
  obtain ⟨xs, p, ⟨⟩⟩ := xs
  obtain ⟨⟨hl, -⟩, -⟩ := hg
  change List Stk at xs
  change Stk → Bool at p
  have hl := len63 hl
  clear hp
  show vfun tab _ k148 Tryz.f148 [.sl StT xs, .lam StT .bool p] [] _
  refine Ev.out ?_
  repeat' (first | ((with_reducible refine Ev.mk ?_); conv => whnf) | (with_reducible refine And.intro ?_ ?_) | (intro h))
  refine LoopVC.on (fun i : Nat => [(8, .i .i64 i)]) (fun _ => []) (fun i => i ≤ xs.length ∧ idxF p xs 0 = idxF p (xs.drop i) i) (fun i => xs.length - i) 0 rfl ⟨by omega, by simp⟩ ?_
  intro i ⟨hi, he⟩
  repeat' (first | ((with_reducible refine Ev.mk ?_); conv => whnf) | (with_reducible refine And.intro ?_ ?_) | (intro h))
  all_goals (try simp only [decide_eq_true_eq, decide_eq_false_iff_not, beq_iff_eq, bne_iff_ne, beq_eq_false_iff_ne, bne_eq_false_iff_eq, Int.toNat_natCast, ge_iff_le, gt_iff_lt, Bool.not_eq_true', Bool.not_eq_false', Int.not_lt, Int.not_le, ne_eq] at *)
  all_goals (try dsimp only [Ty.den, Ty.dflt, StT] at *)
  all_goals (try simp only [eq4, ne4, eq3, ne3, eq2, ne2, Prod.eta, List.length_cons, List.length_nil, List.length_append, Nat.zero_add] at *)
  all_goals (try simp (disch := omega) only [wrap64] at *)
  all_goals try first | exact leafDraw (by kernel_rfl) | exact Leaf.mk trivial | (refine Leaf.mk ?_; omega) | (refine Leaf.mk ?_; unfold maxLen; omega)
  all_goals first
    | (rw [drop_end (by omega)] at he; exact Leaf.mk (ret1 he.symm))
    | (rw [drop_at stk0 (by omega), idxF, if_pos (by assumption)] at he; exact Leaf.mk (ret1 he.symm))
    | (rw [drop_at stk0 (by omega), idxF, if_neg (by simp_all)] at he; exact Leaf.mk ⟨i + 1, rfl, ⟨by omega, he⟩, by omega⟩)
def sContainsFuncT : PSpec := ⟨[.d (.slice StT), .lam StT .bool], [⟨false, [.d .bool]⟩], fun _ => True, fun x => ((List.any x.1 x.2.1, ()), ())⟩
theorem fContainsFuncT : FnOk Tryz.prog 85 := ⟨_, Tryz.func85, by decide, rfl⟩
theorem pContainsFuncT : PSound Tryz.prog 85 sContainsFuncT := by
  refine psound (T := tab) (S := (spOf [(148, sIndexFuncT.spec (lsOf []))])) (keep := k85) (by kernel_rfl) tabOk (spCons (pOk pIndexFuncT fIndexFuncT (by decide) lsNil) spNil) (by kernel_rfl) Tryz.func85 (by kernel_rfl) (by decide) fun xs hg hp => ?_
  obtain ⟨xs, p, ⟨⟩⟩ := xs
  change List Stk at xs
  change Stk → Bool at p
  show vfun tab _ k85 Tryz.f85 [.sl StT xs, .lam StT .bool p] [] _
  refine Ev.out ?_
  repeat' (first | ((with_reducible refine Ev.mk ?_); conv => whnf) | (with_reducible refine And.intro ?_ ?_) | (intro h))
  · exact Leaf.mk trivial
  · exact Leaf.mk (ret1 (idxF_any xs 0))
def sCloneT : PSpec := ⟨[.d (.slice StT)], [⟨false, [.o 38 StT]⟩], fun x => x.1.length ≤ 1000000, fun x => ((x.1, ()), ())⟩
theorem fCloneT : FnOk Tryz.prog 92 := ⟨_, Tryz.func92, by decide, rfl⟩
theorem pCloneT : PSound Tryz.prog 92 sCloneT := by
  refine psound (T := tab) (S := (spOf [])) (keep := k92) (by kernel_rfl) tabOk spNil (by kernel_rfl) Tryz.func92 (by kernel_rfl) (by decide) fun xs hg hp => ?_
  obtain ⟨xs, ⟨⟩⟩ := xs
  obtain ⟨⟨hl, -⟩, -⟩ := hg
  change List Stk at xs
  clear hl
  change xs.length ≤ 1000000 at hp
  show vfun tab _ k92 Tryz.f92 [.sl StT xs] [] _
  refine Ev.out ?_
  repeat' (first | ((with_reducible refine Ev.mk ?_); conv => whnf) | (with_reducible refine And.intro ?_ ?_) | (intro h))
  all_goals (try simp only [decide_eq_true_eq, decide_eq_false_iff_not, beq_iff_eq, bne_iff_ne, beq_eq_false_iff_ne, bne_eq_false_iff_eq, Int.toNat_natCast, ge_iff_le, gt_iff_lt, Bool.not_eq_true', Bool.not_eq_false', Int.not_lt, Int.not_le, ne_eq] at *)
  all_goals (try dsimp only [Ty.den, Ty.dflt, StT] at *)
  all_goals (try simp only [eq4, ne4, eq3, ne3, eq2, ne2, Prod.eta, List.length_cons, List.length_nil, List.length_append, Nat.zero_add] at *)
  all_goals (try simp (disch := omega) only [wrap64] at *)
  all_goals try first | exact leafDraw (by kernel_rfl) | exact Leaf.mk trivial | (refine Leaf.mk ?_; omega) | (refine Leaf.mk ?_; unfold maxLen; omega)
  all_goals first
    | (refine Leaf.mk (ret1 (show ([] : List Stk) = xs from ?_)); exact (List.eq_nil_of_length_eq_zero (by omega)).symm)
    | exact Leaf.mk (ret1 rfl)
    | skip
def firstS : List Stk → Int
  | [] => 0
  | s :: r => if check s = 0 then firstS r else check s
def Up (l : List Stk) (n : Nat) : Prop := ∀ j, j < n → 1 ≤ j → (l.getD (j - 1) stk0).1 < (l.getD j stk0).1
instance (l : List Stk) (n : Nat) : Decidable (Up l n) := by unfold Up; infer_instance
def mayL (l : List Stk) : Int := if firstS l = 0 then (if l.any emptyS = true then 4 else if Up l l.length then 0 else 12) else firstS l
theorem firstS_at {xs : List Stk} {i : Nat} (h : i < xs.length) : firstS (xs.drop i) = if check (xs.getD i stk0) = 0 then firstS (xs.drop (i + 1)) else check (xs.getD i stk0) := by
  rw [drop_at stk0 h, firstS]
theorem up_step {l : List Stk} {i : Nat} (h : Up l i) (h1 : (l.getD (i - 1) stk0).1 < (l.getD i stk0).1) : Up l (i + 1) := fun j hj hj1 => by
  rcases Nat.lt_or_ge j i with hji | hji
  · exact h j hji hj1
  · obtain rfl : j = i := by omega
    exact h1
theorem up_not {l : List Stk} {i : Nat} (hi : 1 ≤ i) (hl : i < l.length) (h : sless (l.getD (i - 1) stk0).1 (l.getD i stk0).1 = false) : ¬ Up l l.length := fun hc => by
  have := sless_iff.2 (hc i hl hi)
  rw [h] at this; exact absurd this (by simp)
abbrev SsT : Ty := .slice StT
end Go.Proofs.YtkmfjlfejdoehaaGreat

set_option linter.unusedVariables false
set_option linter.unusedSimpArgs false
set_option maxRecDepth 8000
set_option maxHeartbeats 4000000
namespace Go.Proofs.YtkmfjlfejdoehaaGreat
open Go.Eng
set_option synthInstance.maxHeartbeats 400000
instance decVerI : DecidableEq Ver := inferInstanceAs (DecidableEq (Int × Int × Bool × List UInt8))
instance decStk : DecidableEq Stk := inferInstanceAs (DecidableEq (List UInt8 × List Ver))
def sameL (a b : List Stk) : Bool := decide (a = b)
end Go.Proofs.YtkmfjlfejdoehaaGreat

set_option linter.unusedVariables false
set_option linter.unusedSimpArgs false
set_option maxRecDepth 8000
set_option maxHeartbeats 4000000
namespace Go.Proofs.YtkmfjlfejdoehaaGreat
open Go.Eng
theorem sameL_self {a : List Stk} (h : sameL a a = false) {P : Prop} : P := absurd h (by rw [sameL, decide_eq_true rfl]; simp)
theorem lightL_len {l : List Stk} {m : Int} (h : lightL l m = true) : (l.length : Int) ≤ m := by
  unfold lightL at h
  rw [Bool.and_eq_true] at h
  exact of_decide_eq_true h.1
end Go.Proofs.YtkmfjlfejdoehaaGreat

set_option linter.unusedVariables false
set_option linter.unusedSimpArgs false
set_option maxRecDepth 8000
set_option maxHeartbeats 4000000
namespace Go.Proofs.YtkmfjlfejdoehaaGreat
open Go.Eng
theorem firstS_zero : ∀ {l : List Stk}, firstS l = 0 ↔ ∀ s ∈ l, check s = 0
  | [] => by simp [firstS]
  | s :: r => by
    rw [firstS, List.forall_mem_cons]
    split
    · rename_i h; rw [firstS_zero]; exact ⟨fun h2 => ⟨h, h2⟩, fun h2 => h2.2⟩
    · rename_i h; exact ⟨fun h2 => absurd h2 h, fun h2 => absurd h2.1 h⟩
theorem up_lt {l : List Stk} (h : Up l l.length) : ∀ (d i : Nat), i + d + 1 < l.length → (l.getD i stk0).1 < (l.getD (i + d + 1) stk0).1
  | 0, i, hi => by have := h (i + 1) (by omega) (by omega); rwa [Nat.add_sub_cancel] at this
  | d + 1, i, hi => by
    have h1 := up_lt h d i (by omega)
    have h2 := h (i + (d + 1) + 1) (by omega) (by omega)
    rw [Nat.add_sub_cancel] at h2
    exact slt_trans h1 h2
theorem up_pair {l : List Stk} : Up l l.length ↔ l.Pairwise (fun a b => a.1 < b.1) := by
  rw [List.pairwise_iff_getElem]
  have eg : ∀ i (hi : i < l.length), l.getD i stk0 = l[i] := fun i hi => by simp [List.getD, hi]
  constructor
  · intro h i j hi hj hij
    have := up_lt h (j - i - 1) i (by omega)
    rw [show i + (j - i - 1) + 1 = j by omega, eg i hi, eg j hj] at this
    exact this
  · intro h j hj hj1
    rw [eg _ (by omega), eg j hj]
    exact h (j - 1) j (by omega) hj (by omega)
theorem mayL_zero {l : List Stk} : mayL l = 0 ↔ (∀ s ∈ l, check s = 0) ∧ l.any emptyS = false ∧ l.Pairwise (fun a b => a.1 < b.1) := by
  rw [← firstS_zero, ← up_pair, mayL]
  split
  · rename_i h
    split
    · rename_i h2; simp [h, h2]
    · rename_i h2
      split <;> simp_all
  · rename_i h; simp [h]
theorem mayL_sub {l m : List Stk} (h : mayL l = 0) (hs : m.Sublist l) : mayL m = 0 := by
  rw [mayL_zero] at h ⊢
  refine ⟨fun s hm => h.1 s (hs.subset hm), ?_, h.2.2.sublist hs⟩
  have h2 := h.2.1
  rw [List.any_eq_false] at h2 ⊢
  exact fun s hm => h2 s (hs.subset hm)
end Go.Proofs.YtkmfjlfejdoehaaGreat

set_option linter.unusedVariables false
set_option linter.unusedSimpArgs false
set_option maxRecDepth 8000
set_option maxHeartbeats 4000000
namespace Go.Proofs.YtkmfjlfejdoehaaGreat
open Go.Eng
def lLCheck1 : LSpec := ⟨StT, .bool, [], fun v _ => emptyS v⟩
theorem fLCheck1 : FnOk Tryz.prog 86 := ⟨_, Tryz.func86, by decide, rfl⟩
theorem pLCheck1 : PSound Tryz.prog 86 lLCheck1.p := by
  refine psound (T := tab) (S := (spOf [])) (keep := k86) (by kernel_rfl) tabOk spNil (by kernel_rfl) Tryz.func86 (by kernel_rfl) (by decide) fun xs hg hp => ?_
  obtain ⟨⟨key, xs⟩, ⟨⟩⟩ := xs
  show vfun tab _ k86 Tryz.f86 [.agg [.s key, .sl VerT xs]] [] _
  refine Ev.out ?_
  repeat' (first | ((with_reducible refine Ev.mk ?_); conv => whnf) | (with_reducible refine And.intro ?_ ?_) | (intro h))
  exact Leaf.mk rfl
def checkL (l : List Stk) : Int := if mayL l = 0 then (if 1016 < sizeF l then 5 else 0) else mayL l
def sLSize : PSpec := ⟨[.st SsT], [⟨false, [.d (.int .i64)]⟩], fun x => List.length x.1 ≤ 100000, fun x => (((sizeF x.1 : Nat), ()), ())⟩
theorem fLSize : FnOk Tryz.prog 26 := ⟨_, Tryz.func26, by decide, rfl⟩
theorem pLSize : PSound Tryz.prog 26 sLSize := by
  refine psound (T := tab) (S := (spOf [(88, sLay14.spec (lsOf []))])) (keep := k26) (by kernel_rfl) tabOk (spCons (pOk pLay14 fLay14 (by decide) lsNil) spNil) (by kernel_rfl) Tryz.func26 (by kernel_rfl) (by decide) fun xs hg hp => ?_
  obtain ⟨xs, ⟨⟩⟩ := xs
  change List Stk at xs
  change xs.length ≤ 100000 at hp
  clear hg
  show vfun tab _ k26 Tryz.f26 [.agg [.sl StT xs]] [] _
  refine Ev.out ?_
  repeat' (first | ((with_reducible refine Ev.mk ?_); conv => whnf) | (with_reducible refine And.intro ?_ ?_) | (intro h))
  all_goals first | exact Leaf.mk hp | exact Leaf.mk rfl
def sLCheck : PSpec := ⟨[.st SsT], [⟨false, [.d (.int .i64)]⟩], fun x => List.length x.1 ≤ 100000, fun x => ((checkL x.1, ()), ())⟩
theorem fLCheck : FnOk Tryz.prog 24 := ⟨_, Tryz.func24, by decide, rfl⟩
theorem pLCheck : PSound Tryz.prog 24 sLCheck := by
  refine psound (T := tab) (S := (spOf [(84, sCheck.spec (lsOf [(86, lLCheck1)])), (85, sContainsFuncT.spec (lsOf [(86, lLCheck1)])), (26, sLSize.spec (lsOf [(86, lLCheck1)]))])) (keep := k24) (by kernel_rfl) tabOk (spCons (pOk pCheck fCheck (by decide) ((lsCons ⟨pLCheck1, fLCheck1⟩ lsNil))) (spCons (pOk pContainsFuncT fContainsFuncT (by decide) ((lsCons ⟨pLCheck1, fLCheck1⟩ lsNil))) (spCons (pOk pLSize fLSize (by decide) ((lsCons ⟨pLCheck1, fLCheck1⟩ lsNil))) spNil))) (by kernel_rfl) Tryz.func24 (by kernel_rfl) (by decide) fun xs hg hp => ?_
  obtain ⟨xs, ⟨⟩⟩ := xs
  change List Stk at xs
  change xs.length ≤ 100000 at hp
  clear hg
  show vfun tab _ k24 Tryz.f24 [.agg [.sl StT xs]] [] _
  refine Ev.out ?_
  repeat' (first | ((with_reducible refine Ev.mk ?_); conv => whnf) | (with_reducible refine And.intro ?_ ?_) | (intro h))
  all_goals (try simp only [decide_eq_true_eq, decide_eq_false_iff_not, beq_iff_eq, bne_iff_ne, beq_eq_false_iff_ne, bne_eq_false_iff_eq, Int.toNat_natCast, ge_iff_le, gt_iff_lt, Bool.not_eq_true', Bool.not_eq_false', Int.not_lt, Int.not_le, ne_eq] at *)
  all_goals (try dsimp only [Ty.den, Ty.dflt, StT] at *)
  all_goals (try simp only [eq4, ne4, eq3, ne3, eq2, ne2, Prod.eta, List.length_cons, List.length_nil, List.length_append, Nat.zero_add] at *)
  all_goals (try simp (disch := omega) only [wrap64] at *)
  all_goals try first | exact leafDraw (by kernel_rfl) | exact Leaf.mk trivial | (refine Leaf.mk ?_; omega) | (refine Leaf.mk ?_; unfold maxLen; omega)
  refine LoopVC.on (fun i : Nat => [(10, .i .i64 i)]) (fun _ => []) (fun i => i ≤ xs.length ∧ firstS xs = firstS (xs.drop i)) (fun i => xs.length - i) 0 rfl ⟨by omega, rfl⟩ ?_
  intro i ⟨hi, he⟩
  repeat' (first | ((with_reducible refine Ev.mk ?_); conv => whnf) | (with_reducible refine And.intro ?_ ?_) | (intro h))
  all_goals (try simp only [decide_eq_true_eq, decide_eq_false_iff_not, beq_iff_eq, bne_iff_ne, beq_eq_false_iff_ne, bne_eq_false_iff_eq, Int.toNat_natCast, ge_iff_le, gt_iff_lt, Bool.not_eq_true', Bool.not_eq_false', Int.not_lt, Int.not_le, ne_eq] at *)
  all_goals (try dsimp only [Ty.den, Ty.dflt, StT, sCheck] at *)
  all_goals (try simp only [eq4, ne4, eq3, ne3, eq2, ne2, Prod.eta, List.length_cons, List.length_nil, List.length_append, Nat.zero_add] at *)
  all_goals (try simp (disch := omega) only [wrap64] at *)
  all_goals try first | exact leafDraw (by kernel_rfl) | exact Leaf.mk trivial | (refine Leaf.mk ?_; omega) | (refine Leaf.mk ?_; unfold maxLen; omega)
  · rw [firstS_at (by omega), if_neg h] at he
    refine Leaf.mk (ret1 (show check (xs.getD i stk0) = checkL xs from ?_))
    have hm : mayL xs = check (xs.getD i stk0) := by rw [mayL, if_neg (by rw [he]; exact h), he]
    rw [checkL, if_neg (by rw [hm]; exact h), hm]
  · rw [firstS_at (by omega), if_pos h] at he
    exact Leaf.mk ⟨i + 1, rfl, ⟨by omega, he⟩, by omega⟩
  all_goals
    rw [drop_end (by omega)] at he
    have h0 : firstS xs = 0 := he
  · refine Leaf.mk (ret1 (show 4 = checkL xs from ?_))
    have hm : mayL xs = 4 := by rw [mayL, if_pos h0, if_pos]; assumption
    rw [checkL, if_neg (by rw [hm]; decide), hm]
  have hM : mayL xs = if Up xs xs.length then 0 else 12 := by
    rw [mayL, if_pos h0, if_neg]
    intro hc
    have h2 : xs.any emptyS = false := by assumption
    rw [hc] at h2; exact absurd h2 (by simp)
  refine LoopVC.on (fun i : Nat => [(6, .i .i64 i)]) (fun _ => []) (fun i => 1 ≤ i ∧ Up xs i) (fun i => xs.length - i) 1 rfl ⟨by omega, fun j hj hj1 => by omega⟩ ?_
  intro i ⟨hi, hu⟩
  repeat' (first | ((with_reducible refine Ev.mk ?_); conv => whnf) | (with_reducible refine And.intro ?_ ?_) | (intro h))
  all_goals (try simp only [decide_eq_true_eq, decide_eq_false_iff_not, beq_iff_eq, bne_iff_ne, beq_eq_false_iff_ne, bne_eq_false_iff_eq, Int.toNat_natCast, ge_iff_le, gt_iff_lt, Bool.not_eq_true', Bool.not_eq_false', Int.not_lt, Int.not_le, ne_eq] at *)
  all_goals (try dsimp only [Ty.den, Ty.dflt, StT, sLSize] at *)
  all_goals (try simp only [eq4, ne4, eq3, ne3, eq2, ne2, Prod.eta, List.length_cons, List.length_nil, List.length_append, Nat.zero_add] at *)
  all_goals (try simp (disch := omega) only [wrap64] at *)
  all_goals try first | exact leafDraw (by kernel_rfl) | exact Leaf.mk trivial | (refine Leaf.mk ?_; omega) | (refine Leaf.mk ?_; unfold maxLen; omega)
  all_goals try rw [show ((i : Int) - 1).toNat = i - 1 by omega] at h
  · refine Leaf.mk (ret1 (show 12 = checkL xs from ?_))
    have hm : mayL xs = 12 := by rw [hM, if_neg (up_not hi (by omega) h)]
    rw [checkL, if_neg (by rw [hm]; decide), hm]
  · exact Leaf.mk ⟨i + 1, rfl, ⟨by omega, up_step hu (sless_iff.1 h)⟩, by omega⟩
  all_goals
    have hm : mayL xs = 0 := by rw [hM, if_pos (show Up xs xs.length from fun j hj hj1 => hu j (by omega) hj1)]
  · refine Leaf.mk (ret1 (show 5 = checkL xs from ?_))
    rw [checkL, if_pos hm, if_pos (by omega)]
  · refine Leaf.mk (ret1 (show 0 = checkL xs from ?_))
    rw [checkL, if_pos hm, if_neg (by omega)]
end Go.Proofs.YtkmfjlfejdoehaaGreat

set_option linter.unusedVariables false
set_option linter.unusedSimpArgs false
set_option maxRecDepth 8000
set_option maxHeartbeats 4000000
namespace Go.Proofs.YtkmfjlfejdoehaaGreat
open Go.Eng
def cstep {α : Type} [DecidableEq α] (acc : List α) (x : α) : List α := if acc.getLast? = some x then acc else acc ++ [x]
def compL {α : Type} [DecidableEq α] (l : List α) : List α := l.foldl cstep []
section
variable {α : Type} [DecidableEq α]
theorem compL_snoc (l : List α) (x : α) : compL (l ++ [x]) = cstep (compL l) x := by rw [compL, List.foldl_append]; rfl
theorem compL_rev : ∀ (n : Nat) (l : List α), l.length = n → (compL l).getLast? = l.getLast? ∧ (compL l).length ≤ l.length
  | 0, l, h => by rw [List.eq_nil_of_length_eq_zero h]; exact ⟨rfl, Nat.le_refl _⟩
  | n + 1, l, h => by
    have hne : l ≠ [] := by rintro rfl; simp at h
    rw [← List.dropLast_concat_getLast hne]
    have h3 : l.dropLast.length = l.length - 1 := List.length_dropLast
    have ih := compL_rev n l.dropLast (by omega)
    rw [compL_snoc, cstep]
    split
    · rename_i hs
      rw [hs, List.length_append]; exact ⟨by simp, by have := ih.2; simp; omega⟩
    · rw [List.length_append, List.length_append]; exact ⟨by simp, by have := ih.2; simp; omega⟩
theorem compL_last (l : List α) : (compL l).getLast? = l.getLast? := (compL_rev _ l rfl).1
theorem compL_len (l : List α) : (compL l).length ≤ l.length := (compL_rev _ l rfl).2
theorem compL_short {l : List α} (h : l.length < 2) : compL l = l := by
  match l, h with
  | [], _ => rfl
  | [x], _ => rfl
theorem compL_step (d : α) {xs : List α} {n : Nat} (h1 : 1 ≤ n) (h : n < xs.length) : compL (xs.take (n + 1)) = if xs.getD (n - 1) d = xs.getD n d then compL (xs.take n) else compL (xs.take n) ++ [xs.getD n d] := by
  rw [take_at d h, compL_snoc, cstep, compL_last]
  have e : (xs.take n).getLast? = some (xs.getD (n - 1) d) := by
    rw [List.getLast?_eq_getElem?, List.length_take, Nat.min_eq_left (by omega), List.getElem?_take, if_pos (by omega), List.getElem?_eq_getElem (by omega)]
    simp [List.getD, show n - 1 < xs.length by omega]
  rw [e]
  simp only [Option.some.injEq]
theorem compL_eq (d : α) {xs : List α} {n : Nat} (h1 : 1 ≤ n) (h : n < xs.length) (he : xs.getD n d = xs.getD (n - 1) d) : compL (xs.take (n + 1)) = compL (xs.take n) := by
  rw [compL_step d h1 h, if_pos he.symm]
theorem compL_ne (d : α) {xs : List α} {n : Nat} (h1 : 1 ≤ n) (h : n < xs.length) (he : ¬ xs.getD n d = xs.getD (n - 1) d) : compL (xs.take (n + 1)) = compL (xs.take n) ++ [xs.getD n d] := by
  rw [compL_step d h1 h, if_neg (fun hc => he hc.symm)]
end
structure CF {α : Type} [DecidableEq α] (xs : List α) (k : Nat) (zs : List (Option α)) (i j : Nat) : Prop where
  len : zs.length = xs.length + k
  cnt : i = (compL (xs.take j)).length
  lt : i < j
  le : j ≤ xs.length
  front : zs.take i = (compL (xs.take j)).map some
  rest : zs.drop (j - 1) = (xs.map some ++ List.replicate k none).drop (j - 1)
section
variable {α : Type} [DecidableEq α] {xs : List α} {k : Nat} {zs : List (Option α)} {i j : Nat}
theorem CF.get (q : CF xs k zs i j) (d : α) {m : Nat} (h : j - 1 ≤ m) (h2 : m < xs.length) : zs.getD m none = some (xs.getD m d) := by
  rw [← raw_getD (k := k) d h2, List.getD_eq_getElem?_getD, List.getD_eq_getElem?_getD]
  have := congrArg (·[m - (j - 1)]?) q.rest
  simp only [List.getElem?_drop, show j - 1 + (m - (j - 1)) = m by omega] at this
  rw [this]
theorem CF.first (d : α) {n : Nat} (h1 : 1 ≤ n) (h : n < xs.length) (hc : compL (xs.take n) = xs.take n) (he : xs.getD n d = xs.getD (n - 1) d) : CF xs k (xs.map some ++ List.replicate k none) n (n + 1) := by
  have e : compL (xs.take (n + 1)) = xs.take n := by rw [compL_eq d h1 h he, hc]
  exact ⟨by simp, by rw [e, List.length_take]; omega, by omega, by omega, by rw [e, raw_take (by omega)], rfl⟩
theorem CF.same (q : CF xs k zs i j) (d : α) (h : j < xs.length) (he : xs.getD j d = xs.getD (j - 1) d) : CF xs k zs i (j + 1) := by
  have hlt := q.lt
  have e : compL (xs.take (j + 1)) = compL (xs.take j) := compL_eq d (by omega) h he
  refine ⟨q.len, by rw [e]; exact q.cnt, by omega, by omega, by rw [e]; exact q.front, ?_⟩
  have := congrArg (List.drop 1) q.rest
  simp only [List.drop_drop] at this
  rw [show j - 1 + 1 = j by omega] at this
  rw [Nat.add_sub_cancel]; exact this
theorem CF.new (q : CF xs k zs i j) (d : α) (h : j < xs.length) (he : ¬ xs.getD j d = xs.getD (j - 1) d) : CF xs k (zs.set i (some (xs.getD j d))) (i + 1) (j + 1) := by
  have hlt := q.lt
  have e : compL (xs.take (j + 1)) = compL (xs.take j) ++ [xs.getD j d] := compL_ne d (by omega) h he
  have hl := q.len
  refine ⟨by rw [List.length_set]; exact hl, by rw [e, List.length_append, ← q.cnt]; rfl, by omega, by omega, ?_, ?_⟩
  · rw [e, List.map_append, ← q.front, take_at none (by rw [List.length_set]; omega), List.take_set_of_le (Nat.le_refl _)]
    congr 1
    rw [List.getD_eq_getElem?_getD, List.getElem?_set_self (by omega)]; rfl
  · have := congrArg (List.drop 1) q.rest
    simp only [List.drop_drop] at this
    rw [show j - 1 + 1 = j by omega] at this
    rw [Nat.add_sub_cancel, List.drop_set_of_lt (by omega)]; exact this
theorem CF.fin (q : CF xs k zs i xs.length) : zs.take i = (compL xs).map some := by
  have := q.front
  rwa [take_all (Nat.le_refl _)] at this
end
theorem sle_cases {x y : List UInt8} (h : x ≤ y) : x < y ∨ x = y := by
  by_cases hx : x < y
  · exact .inl hx
  · exact .inr (slt_total hx (List.not_lt.2 h))
theorem rise_ext : ∀ {a b : List (List UInt8)}, a.Pairwise (· < ·) → b.Pairwise (· < ·) → (∀ x, x ∈ a ↔ x ∈ b) → a = b
  | [], [], _, _, _ => rfl
  | [], y :: b, _, _, h => absurd ((h y).2 List.mem_cons_self) (by simp)
  | x :: a, [], _, _, h => absurd ((h x).1 List.mem_cons_self) (by simp)
  | x :: a, y :: b, ha, hb, h => by
    rw [List.pairwise_cons] at ha hb
    have hxy : x = y := by
      rcases List.mem_cons.1 ((h x).1 List.mem_cons_self) with h1 | h1
      · exact h1
      · rcases List.mem_cons.1 ((h y).2 List.mem_cons_self) with h2 | h2
        · exact h2.symm
        · exact absurd (hb.1 x h1) (slt_asymm (ha.1 y h2))
    subst hxy
    congr 1
    refine rise_ext ha.2 hb.2 fun z => ⟨fun hz => ?_, fun hz => ?_⟩
    · rcases List.mem_cons.1 ((h z).1 (List.mem_cons_of_mem _ hz)) with h1 | h1
      · subst h1; exact absurd (ha.1 z hz) (slt_irrefl z)
      · exact h1
    · rcases List.mem_cons.1 ((h z).2 (List.mem_cons_of_mem _ hz)) with h1 | h1
      · subst h1; exact absurd (hb.1 z hz) (slt_irrefl z)
      · exact h1
theorem sortStr_pw (l : List (List UInt8)) : (sortStr l).Pairwise (· ≤ ·) := by
  have := List.pairwise_mergeSort (le := fun x y : List UInt8 => decide (x ≤ y)) (fun a b c h1 h2 => by
    simp only [decide_eq_true_eq] at *; exact List.le_trans h1 h2) (fun a b => by
    simp only [Bool.or_eq_true, decide_eq_true_eq]; exact List.le_total a b) l
  exact this.imp fun h => by simpa using h
theorem sortStr_mem {l : List (List UInt8)} {x : List UInt8} : x ∈ sortStr l ↔ x ∈ l := (List.mergeSort_perm _ _).mem_iff
theorem sortStr_len (l : List (List UInt8)) : (sortStr l).length = l.length := (List.mergeSort_perm _ _).length_eq
theorem compL_mem' {α : Type} [DecidableEq α] : ∀ (n : Nat) (l : List α), l.length = n → ∀ x, x ∈ compL l ↔ x ∈ l
  | 0, l, h, x => by rw [List.eq_nil_of_length_eq_zero h]; exact Iff.rfl
  | n + 1, l, h, x => by
    have hne : l ≠ [] := by rintro rfl; simp at h
    rw [← List.dropLast_concat_getLast hne]
    have h3 : l.dropLast.length = l.length - 1 := List.length_dropLast
    have ih := compL_mem' n l.dropLast (by omega) x
    rw [compL_snoc, cstep]
    split
    · rename_i hs
      rw [ih, List.mem_append, List.mem_singleton]
      refine ⟨.inl, fun hx => hx.elim id fun hx => ?_⟩
      rw [compL_last] at hs
      rw [hx]; exact List.mem_of_getLast? hs
    · rw [List.mem_append, List.mem_append, ih]
theorem compL_mem {α : Type} [DecidableEq α] {l : List α} {x : α} : x ∈ compL l ↔ x ∈ l := compL_mem' _ l rfl x
theorem compL_rise' : ∀ (n : Nat) (l : List (List UInt8)), l.length = n → l.Pairwise (· ≤ ·) → (compL l).Pairwise (· < ·)
  | 0, l, h, _ => by rw [List.eq_nil_of_length_eq_zero h]; exact List.Pairwise.nil
  | n + 1, l, h, hp => by
    have hne : l ≠ [] := by rintro rfl; simp at h
    rw [← List.dropLast_concat_getLast hne] at hp ⊢
    have h3 : l.dropLast.length = l.length - 1 := List.length_dropLast
    rw [List.pairwise_append] at hp
    have ih := compL_rise' n l.dropLast (by omega) hp.1
    rw [compL_snoc, cstep]
    split
    · exact ih
    · rename_i hs
      rw [List.pairwise_append]
      refine ⟨ih, by simp, fun a ha b hb => ?_⟩
      rw [List.mem_singleton] at hb
      subst hb
      have h4 := hp.2.2 a (compL_mem.1 ha) _ (List.mem_singleton.2 rfl)
      rcases sle_cases h4 with h5 | h5
      · exact h5
      · exfalso
        -- a is the greatest: it is the last
        apply hs
        have hne2 : compL l.dropLast ≠ [] := List.ne_nil_of_mem ha
        rw [List.getLast?_eq_some_getLast hne2]
        congr 1
        have h6 : (compL l.dropLast).getLast hne2 ∈ l.dropLast := compL_mem.1 (List.getLast_mem hne2)
        have h7 := hp.2.2 _ h6 _ (List.mem_singleton.2 rfl)
        rcases sle_cases h7 with h8 | h8
        · exfalso
          rw [← List.dropLast_concat_getLast hne2] at ih ha
          rw [List.pairwise_append] at ih
          rcases List.mem_append.1 ha with h9 | h9
          · have := ih.2.2 a h9 _ (List.mem_singleton.2 rfl)
            rw [h5] at this
            exact slt_asymm this h8
          · rw [List.mem_singleton] at h9
            rw [← h9, h5] at h8; exact slt_irrefl _ h8
        · exact h8
theorem compL_rise {l : List (List UInt8)} (h : l.Pairwise (· ≤ ·)) : (compL l).Pairwise (· < ·) := compL_rise' _ l rfl h
def sortU (l : List (List UInt8)) : List (List UInt8) := compL (sortStr l)
theorem sortU_rise (l : List (List UInt8)) : (sortU l).Pairwise (· < ·) := compL_rise (sortStr_pw l)
theorem sortU_mem {l : List (List UInt8)} {x : List UInt8} : x ∈ sortU l ↔ x ∈ l := by rw [sortU, compL_mem, sortStr_mem]
theorem sortU_len (l : List (List UInt8)) : (sortU l).length ≤ l.length := by
  have := compL_len (sortStr l)
  rw [sortStr_len] at this
  exact this
def posK (k : List UInt8) : List (List UInt8) → Nat
  | [] => 0
  | x :: r => if sless x k = true then posK k r + 1 else 0
def addK (l : List (List UInt8)) (k : List UInt8) : List (List UInt8) := if posK k l < l.length ∧ l.getD (posK k l) [] = k then l else l.take (posK k l) ++ [k] ++ l.drop (posK k l)
theorem addK_cons (x : List UInt8) (r : List (List UInt8)) (k : List UInt8) : addK (x :: r) k = if sless x k = true then x :: addK r k else if x = k then x :: r else k :: x :: r := by
  unfold addK
  rw [posK]
  split
  · simp only [List.length_cons, List.getD_cons_succ, List.take_succ_cons, List.drop_succ_cons, Nat.add_lt_add_iff_right]
    split <;> simp
  · simp only [List.length_cons, Nat.zero_lt_succ, List.getD_cons_zero, true_and, List.take_zero, List.drop_zero, List.nil_append]
    rfl
theorem addK_mem (k x : List UInt8) : ∀ (l : List (List UInt8)), x ∈ addK l k ↔ x ∈ l ∨ x = k
  | [] => by simp [addK, posK]
  | y :: r => by
    have ih := addK_mem k x r
    rw [addK_cons]
    split
    · rw [List.mem_cons, ih, List.mem_cons, or_assoc]
    · split
      · rename_i h; subst h
        rw [List.mem_cons]
        exact ⟨.inl, fun h => h.elim id .inl⟩
      · rw [List.mem_cons]; exact or_comm
theorem addK_rise (k : List UInt8) : ∀ (l : List (List UInt8)), l.Pairwise (· < ·) → (addK l k).Pairwise (· < ·)
  | [], _ => by simp [addK, posK]
  | y :: r, h => by
    have h' := List.pairwise_cons.1 h
    have ih := addK_rise k r h'.2
    rw [addK_cons]
    split
    · rename_i hs
      rw [List.pairwise_cons]
      refine ⟨fun z hz => ?_, ih⟩
      rcases (addK_mem k z r).1 hz with h1 | h1
      · exact h'.1 z h1
      · rw [h1]; exact sless_iff.1 hs
    · split
      · exact h
      · rename_i hs hne
        have hky : k < y := by
          rcases sle_cases (List.not_lt.1 (fun hc => hs (sless_iff.2 hc))) with h1 | h1
          · exact h1
          · exact absurd h1.symm hne
        rw [List.pairwise_cons]
        refine ⟨fun z hz => ?_, h⟩
        rcases List.mem_cons.1 hz with h1 | h1
        · rw [h1]; exact hky
        · exact slt_trans hky (h'.1 z h1)
theorem foldK (l : List (List UInt8)) : ∀ (acc : List (List UInt8)), acc.Pairwise (· < ·) → (l.foldl addK acc).Pairwise (· < ·) ∧ ∀ x, x ∈ l.foldl addK acc ↔ x ∈ acc ∨ x ∈ l := by
  induction l with
  | nil => intro acc h; exact ⟨h, by simp⟩
  | cons k l ih =>
    intro acc h
    obtain ⟨h1, h2⟩ := ih (addK acc k) (addK_rise k acc h)
    refine ⟨h1, fun x => ?_⟩
    rw [List.foldl_cons, h2, addK_mem, List.mem_cons, or_assoc]
theorem sortU_fold (l : List (List UInt8)) : l.foldl addK [] = sortU l := by
  obtain ⟨h1, h2⟩ := foldK l [] List.Pairwise.nil
  refine rise_ext h1 (sortU_rise l) fun x => ?_
  rw [h2, sortU_mem]; simp
end Go.Proofs.YtkmfjlfejdoehaaGreat

namespace Go.Proofs.YtkmfjlfejdoehaaGreat
open Go.Proofs Go.Shelf
def lays190_ren : Go.Shelf.Ren := ⟨fun | 190 => 142 | 125 => 194 | 258 => 193 | 128 => 235 | 129 => 236 | 302 => 226 | 303 => 227 | 304 => 228 | 305 => 229 | 306 => 230 | 307 => 231 | 308 => 232 | 309 => 233 | 310 => 234 | 333 => 247 | 329 => 248 | 330 => 249 | 334 => 250 | 335 => 251 | 336 => 252 | 344 => 256 | n => n, fun | 31 => 82 | 9 => 9 | 3 => 3 | 46 => 179 | 0 => 0 | 51 => 259 | 53 => 187 | 4 => 4 | 183 => 252 | 182 => 251 | 131 => 114 | 5 => 5 | 218 => 268 | 222 => 272 | 228 => 276 | 229 => 277 | n => n, fun | n => n⟩
theorem lays190 : Go.Proofs.Lays.n190 Tryz.prog lays190_ren := {
  mixed := by kernel_rfl
  f125 := Tryz.func194.trans (congrArg some (by kernel_rfl))
  f128 := Tryz.func235.trans (congrArg some (by kernel_rfl))
  f129 := Tryz.func236.trans (congrArg some (by kernel_rfl))
  f190 := Tryz.func142.trans (congrArg some (by kernel_rfl))
  f258 := Tryz.func193.trans (congrArg some (by kernel_rfl))
  f302 := Tryz.func226.trans (congrArg some (by kernel_rfl))
  f303 := Tryz.func227.trans (congrArg some (by kernel_rfl))
  f304 := Tryz.func228.trans (congrArg some (by kernel_rfl))
  f305 := Tryz.func229.trans (congrArg some (by kernel_rfl))
  f306 := Tryz.func230.trans (congrArg some (by kernel_rfl))
  f307 := Tryz.func231.trans (congrArg some (by kernel_rfl))
  f308 := Tryz.func232.trans (congrArg some (by kernel_rfl))
  f309 := Tryz.func233.trans (congrArg some (by kernel_rfl))
  f310 := Tryz.func234.trans (congrArg some (by kernel_rfl))
  f329 := Tryz.func248.trans (congrArg some (by kernel_rfl))
  f330 := Tryz.func249.trans (congrArg some (by kernel_rfl))
  f333 := Tryz.func247.trans (congrArg some (by kernel_rfl))
  f334 := Tryz.func250.trans (congrArg some (by kernel_rfl))
  f335 := Tryz.func251.trans (congrArg some (by kernel_rfl))
  f336 := Tryz.func252.trans (congrArg some (by kernel_rfl))
  f344 := Tryz.func256.trans (congrArg some (by kernel_rfl))
  t0 := Tryz.underlying0
  a0 := Tryz.isAgg0
  z0 := Tryz.sizeOf0
  v0 := Tryz.zeroValue0
  t3 := Tryz.underlying3
  a3 := Tryz.isAgg3
  z3 := Tryz.sizeOf3
  v3 := Tryz.zeroValue3
  t4 := Tryz.underlying4
  a4 := Tryz.isAgg4
  z4 := Tryz.sizeOf4
  v4 := Tryz.zeroValue4
  t5 := Tryz.underlying5
  a5 := Tryz.isAgg5
  z5 := Tryz.sizeOf5
  v5 := Tryz.zeroValue5
  t9 := Tryz.underlying9
  a9 := Tryz.isAgg9
  z9 := Tryz.sizeOf9
  v9 := Tryz.zeroValue9
  t31 := Tryz.underlying82
  a31 := Tryz.isAgg82
  z31 := Tryz.sizeOf82
  v31 := Tryz.zeroValue82
  t46 := Tryz.underlying179
  a46 := Tryz.isAgg179
  z46 := Tryz.sizeOf179
  v46 := Tryz.zeroValue179
  t51 := Tryz.underlying259
  a51 := Tryz.isAgg259
  z51 := Tryz.sizeOf259
  v51 := Tryz.zeroValue259
  t53 := Tryz.underlying187
  a53 := Tryz.isAgg187
  z53 := Tryz.sizeOf187
  v53 := Tryz.zeroValue187
  t131 := Tryz.underlying114
  a131 := Tryz.isAgg114
  z131 := Tryz.sizeOf114
  v131 := Tryz.zeroValue114
  t182 := Tryz.underlying251
  a182 := Tryz.isAgg251
  z182 := Tryz.sizeOf251
  v182 := Tryz.zeroValue251
  t183 := Tryz.underlying252
  a183 := Tryz.isAgg252
  z183 := Tryz.sizeOf252
  v183 := Tryz.zeroValue252
  t218 := Tryz.underlying268
  a218 := Tryz.isAgg268
  z218 := Tryz.sizeOf268
  v218 := Tryz.zeroValue268
  t222 := Tryz.underlying272
  a222 := Tryz.isAgg272
  z222 := Tryz.sizeOf272
  v222 := Tryz.zeroValue272
  t228 := Tryz.underlying276
  a228 := Tryz.isAgg276
  z228 := Tryz.sizeOf276
  v228 := Tryz.zeroValue276
  t229 := Tryz.underlying277
  a229 := Tryz.isAgg277
  z229 := Tryz.sizeOf277
  v229 := Tryz.zeroValue277 }
end Go.Proofs.YtkmfjlfejdoehaaGreat
