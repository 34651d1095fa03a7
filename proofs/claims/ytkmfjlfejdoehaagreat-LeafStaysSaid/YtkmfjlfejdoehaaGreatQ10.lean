import Derived.Test.YtkmfjlfejdoehaaGreatQ9
import Derived.Test.YtkmfjlfejdoehaaGreatEng5
/- Texts, one behind the other. -/
set_option linter.unusedVariables false
set_option linter.unusedSimpArgs false
set_option maxRecDepth 8000
set_option maxHeartbeats 4000000
namespace Go.Proofs.YtkmfjlfejdoehaaGreat
open Go.Eng
def cmpK (a b : List UInt8) : Int := Lib.compareBytes a b
theorem cmpK_lt : ∀ (a b : List UInt8), cmpK a b < 0 ↔ a < b
  | [], [] => by simp [cmpK, Lib.compareBytes]
  | [], _ :: _ => by simp [cmpK, Lib.compareBytes]
  | _ :: _, [] => by simp [cmpK, Lib.compareBytes]
  | a :: r, b :: s => by
    have ih := cmpK_lt r s
    unfold cmpK at *
    rw [Lib.compareBytes, List.cons_lt_cons_iff, ← ih]
    by_cases h1 : a < b
    · simp [h1]
    · by_cases h2 : b < a
      · have h3 : ¬ a = b := fun hc => by rw [hc] at h2; exact absurd h2 (by simp [UInt8.lt_iff_toNat_lt])
        simp [h1, h2, h3]
      · have h3 : a = b := by rw [UInt8.lt_iff_toNat_lt] at h1 h2; rw [← UInt8.toNat_inj]; omega
        subst h3
        simp [h1]
theorem cmpK_eq : ∀ (a b : List UInt8), cmpK a b = 0 ↔ a = b
  | [], [] => by simp [cmpK, Lib.compareBytes]
  | [], _ :: _ => by simp [cmpK, Lib.compareBytes]
  | _ :: _, [] => by simp [cmpK, Lib.compareBytes]
  | a :: r, b :: s => by
    have ih := cmpK_eq r s
    unfold cmpK at *
    rw [Lib.compareBytes, List.cons.injEq, ← ih]
    by_cases h1 : a < b
    · have h3 : ¬ a = b := fun hc => by rw [hc] at h1; exact absurd h1 (by simp [UInt8.lt_iff_toNat_lt])
      simp [h1, h3]
    · by_cases h2 : b < a
      · have h3 : ¬ a = b := fun hc => by rw [hc] at h2; exact absurd h2 (by simp [UInt8.lt_iff_toNat_lt])
        simp [h1, h2, h3]
      · have h3 : a = b := by rw [UInt8.lt_iff_toNat_lt] at h1 h2; rw [← UInt8.toNat_inj]; omega
        subst h3
        simp [h1]
theorem pXCmpStr : XOk Tryz.prog 237 xCmpStr := xCmpStr_ok Tryz.func237 (by kernel_rfl) (by kernel_rfl) (by kernel_rfl) (by kernel_rfl)
def sSCompare : PSpec := ⟨[.d .str, .d .str], [⟨false, [.d (.int .i64)]⟩], fun _ => True, fun x => ((cmpK x.1 x.2.1, ()), ())⟩
def sCmpString : PSpec := sSCompare
theorem fCmpString : FnOk Tryz.prog 195 := ⟨_, Tryz.func195, by decide, rfl⟩
theorem pCmpString : PSound Tryz.prog 195 sCmpString := by
  refine psound (T := tab) (S := (spOf [(237, xCmpStr)])) (keep := k195) (by kernel_rfl) tabOk (spCons (.inr pXCmpStr) spNil) (by kernel_rfl) Tryz.func195 (by kernel_rfl) (by decide) fun xs hg hp => ?_
  obtain ⟨a, b, ⟨⟩⟩ := xs
  change List UInt8 at a b
  show vfun tab _ k195 Tryz.f195 [.s a, .s b] [] _
  refine Ev.out ?_
  repeat' (first | ((with_reducible refine Ev.mk ?_); conv => whnf) | (with_reducible refine And.intro ?_ ?_) | (intro h))
  all_goals exact Leaf.mk rfl
theorem fSCompare : FnOk Tryz.prog 144 := ⟨_, Tryz.func144, by decide, rfl⟩
theorem pSCompare : PSound Tryz.prog 144 sSCompare := by
  refine psound (T := tab) (S := (spOf [(195, sCmpString.spec (lsOf []))])) (keep := k144) (by kernel_rfl) tabOk (spCons (pOk pCmpString fCmpString (by decide) lsNil) spNil) (by kernel_rfl) Tryz.func144 (by kernel_rfl) (by decide) fun xs hg hp => ?_
  obtain ⟨a, b, ⟨⟩⟩ := xs
  change List UInt8 at a b
  show vfun tab _ k144 Tryz.f144 [.s a, .s b] [] _
  refine Ev.out ?_
  repeat' (first | ((with_reducible refine Ev.mk ?_); conv => whnf) | (with_reducible refine And.intro ?_ ?_) | (intro h))
  all_goals first | exact Leaf.mk trivial | exact Leaf.mk rfl
def sByKey : PSpec := ⟨[.d StT, .d StT], [⟨false, [.d (.int .i64)]⟩], fun _ => True, fun x => ((cmpK x.1.1 x.2.1.1, ()), ())⟩
theorem fByKey : FnOk Tryz.prog 76 := ⟨_, Tryz.func76, by decide, rfl⟩
theorem pByKey : PSound Tryz.prog 76 sByKey := by
  refine psound (T := tab) (S := (spOf [(144, sSCompare.spec (lsOf []))])) (keep := k76) (by kernel_rfl) tabOk (spCons (pOk pSCompare fSCompare (by decide) lsNil) spNil) (by kernel_rfl) Tryz.func76 (by kernel_rfl) (by decide) fun xs hg hp => ?_
  obtain ⟨⟨key, xs⟩, ⟨key2, xs2⟩, ⟨⟩⟩ := xs
  show vfun tab _ k76 Tryz.f76 [.agg [.s key, .sl VerT xs], .agg [.s key2, .sl VerT xs2]] [] _
  refine Ev.out ?_
  repeat' (first | ((with_reducible refine Ev.mk ?_); conv => whnf) | (with_reducible refine And.intro ?_ ?_) | (intro h))
  all_goals first | exact Leaf.mk trivial | exact Leaf.mk rfl
end Go.Proofs.YtkmfjlfejdoehaaGreat

set_option linter.unusedVariables false
set_option linter.unusedSimpArgs false
set_option maxRecDepth 8000
set_option maxHeartbeats 4000000
namespace Go.Proofs.YtkmfjlfejdoehaaGreat
open Go.Eng
theorem fBinS : FnOk Tryz.prog 75 := ⟨_, Tryz.func75, by decide, rfl⟩
noncomputable def iBinS : Eng.Spec := inl tab (spOf [(76, sByKey.spec (lsOf []))]) k75 Tryz.f75
theorem pBinS : SpecOk Tryz.prog 75 iBinS := inl_ok tabOk (spCons (pOk pByKey fByKey (by decide) lsNil) spNil) (by kernel_rfl) Tryz.func75 (by kernel_rfl)
theorem fOver1i : FnOk Tryz.prog 78 := ⟨_, Tryz.func78, by decide, rfl⟩
noncomputable def iOver1i : Eng.Spec := inl tab (spOf [(79, sFold.spec (lsOf []))]) k78 Tryz.f78
theorem pOver1i : SpecOk Tryz.prog 78 iOver1i := inl_ok tabOk (spCons (pOk pFold fFold (by decide) lsNil) spNil) (by kernel_rfl) Tryz.func78 (by kernel_rfl)
theorem fDoneO : FnOk Tryz.prog 67 := ⟨_, Tryz.func67, by decide, rfl⟩
noncomputable def iDoneO : Eng.Spec := inl tab (spOf [(78, iOver1i)]) k67 Tryz.f67
theorem pDoneO : SpecOk Tryz.prog 67 iDoneO := inl_ok tabOk (spCons (.inl ⟨pOver1i, fOver1i⟩) spNil) (by kernel_rfl) Tryz.func67 (by kernel_rfl)
def fullP (s : Stk) : Bool := decide (0 < s.2.length)
def xN (l : List Stk) (ks : List (List UInt8)) (j : Nat) : List Stk := (ks.take j).foldl withF l
def overM (l : List Stk) (m : List Msg) (lo hi : List UInt8) : List Stk := (((keysF lo hi m).foldl withF (l.filter (inR lo hi))).map fun s => foldM s m).filter fullP
def RiseK (l : List Stk) : Prop := l.Pairwise fun a b => a.1 < b.1
theorem riseK_at {l : List Stk} (h : RiseK l) {a b : Nat} (hab : a < b) (hb : b < l.length) : (l.getD a stk0).1 < (l.getD b stk0).1 := by
  have e : ∀ i, (h : i < l.length) → l.getD i stk0 = l[i] := fun i h => by rw [List.getD_eq_getElem?_getD, List.getElem?_eq_getElem h]; rfl
  rw [e a (by omega), e b hb]
  exact (List.pairwise_iff_getElem.1 h) _ _ _ _ hab
theorem lastL_iff {k : List UInt8} {l : List Stk} (h : RiseK l) : ∀ n, n ≤ l.length → ∀ a, a < n → ((l.getD a stk0).1 < k ↔ a < lastL k l n)
  | 0, _, a, ha => by omega
  | n + 1, hn, a, ha => by
    rw [lastL]
    split
    · rename_i hs
      have hs := sless_iff.1 hs
      by_cases hx : a = n
      · subst hx; exact ⟨fun _ => by omega, fun _ => hs⟩
      · exact ⟨fun _ => by omega, fun _ => slt_trans (riseK_at h (show a < n by omega) (by omega)) hs⟩
    · rename_i hs
      have hle := lastL_le k l n
      by_cases hx : a = n
      · subst hx
        exact ⟨fun hc => absurd (sless_iff.2 hc) hs, fun hc => by omega⟩
      · exact lastL_iff h n (by omega) a (by omega)
theorem mid_eq {a b : Nat} (h : a + b ≤ 100000) : IntKind.i64.wrap ((IntKind.u64.wrap ((a : Int) + b)).fdiv (2 ^ min (Int.toNat 1) IntKind.u64.bits)) = (((a + b) / 2 : Nat) : Int) := by
  rw [wrapU64, Int.emod_eq_of_lt (by omega) (by omega), show (2 : Int) ^ min (Int.toNat 1) IntKind.u64.bits = 2 from rfl, Int.fdiv_eq_ediv_of_nonneg _ (by decide), wrap64 (by omega)]
  omega
theorem idxF_neg {α : Type} {p : α → Bool} : ∀ (xs : List α) (i : Nat), idxF p xs i < 0 ↔ ∀ x ∈ xs, p x = false
  | [], i => by simp [idxF]
  | x :: r, i => by
    rw [idxF]
    split
    · rename_i h
      exact ⟨fun hc => by omega, fun hc => by have := hc x List.mem_cons_self; rw [h] at this; cases this⟩
    · rename_i h
      rw [idxF_neg r (i + 1)]
      simp only [List.mem_cons, forall_eq_or_imp]
      exact ⟨fun hc => ⟨by simpa using h, hc⟩, fun hc => hc.2⟩
theorem plL_neg {l : List Stk} {k : List UInt8} : plL l k < 0 ↔ ∀ a, a < l.length → ¬ (l.getD a stk0).1 = k := by
  rw [plL, idxF_neg]
  constructor
  · intro h a ha hc
    have := h _ (getD_mem stk0 ha)
    rw [keyIs, hc] at this
    simp at this
  · intro h x hx
    obtain ⟨a, ha, rfl⟩ := List.mem_iff_getElem.1 hx
    have := h a ha
    rw [List.getD_eq_getElem?_getD, List.getElem?_eq_getElem ha] at this
    simpa [keyIs] using this
theorem withF_new {X : List Stk} {k : List UInt8} {q : Nat} (h : RiseK X) (hq : lastL k X X.length = q) (hn : X.length ≤ q ∨ ¬ (X.getD q stk0).1 = k) : withF X k = X.take q ++ (k, []) :: X.drop q := by
  rw [withF, hq, if_pos]
  rw [plL_neg]
  intro a ha hc
  have hi := lastL_iff (k := k) h X.length (Nat.le_refl _) a ha
  rw [hq] at hi
  by_cases haq : a < q
  · have := hi.2 haq; rw [hc] at this; exact slt_irrefl _ this
  · rcases hn with hn | hn
    · omega
    · by_cases he : a = q
      · subst he; exact hn hc
      · have h2 := riseK_at h (show q < a by omega) ha
        rw [hc] at h2
        have h3 := (lastL_iff (k := k) h X.length (Nat.le_refl _) q (by omega)).1 h2
        omega
theorem withF_old {X : List Stk} {k : List UInt8} {q : Nat} (hq : q < X.length) (he : (X.getD q stk0).1 = k) : withF X k = X := by
  rw [withF, if_neg]
  rw [plL_neg]
  exact fun h => h q hq he
theorem withF_rise {X : List Stk} {k : List UInt8} (h : RiseK X) : RiseK (withF X k) ∧ (withF X k).length ≤ X.length + 1 ∧ ∀ s ∈ withF X k, s ∈ X ∨ s = (k, []) := by
  rw [withF]
  split
  · rename_i hp
    have hle := lastL_le k X X.length
    have hno := plL_neg.1 hp
    have hiff := fun a (ha : a < X.length) => lastL_iff (k := k) h X.length (Nat.le_refl _) a ha
    generalize lastL k X X.length = q at *
    have g : ∀ a, (ha : a < X.length) → X.getD a stk0 = X[a] := fun a ha => by rw [List.getD_eq_getElem?_getD, List.getElem?_eq_getElem ha]; rfl
    have hsplit : (X.take q ++ X.drop q).Pairwise fun a b : Stk => a.1 < b.1 := by rw [List.take_append_drop]; exact h
    rw [List.pairwise_append] at hsplit
    have hlo : ∀ s ∈ X.take q, s.1 < k := fun s hs => by
      obtain ⟨a, ha, rfl⟩ := List.mem_iff_getElem.1 hs
      rw [List.length_take] at ha
      rw [List.getElem_take, ← g a (by omega)]
      exact (hiff a (by omega)).2 (by omega)
    have hhi : ∀ s ∈ X.drop q, k < s.1 := fun s hs => by
      obtain ⟨a, ha, rfl⟩ := List.mem_iff_getElem.1 hs
      rw [List.length_drop] at ha
      rw [List.getElem_drop, ← g (q + a) (by omega)]
      have h1 : ¬ (X.getD (q + a) stk0).1 < k := fun hc => by have := (hiff (q + a) (by omega)).1 hc; omega
      have h2 := hno (q + a) (by omega)
      rcases sle_cases (List.not_lt.1 h1) with h3 | h3
      · exact h3
      · exact absurd h3.symm h2
    refine ⟨?_, by simp only [List.length_append, List.length_cons, List.length_take, List.length_drop]; omega, fun s hs => ?_⟩
    · rw [RiseK, List.pairwise_append, List.pairwise_cons]
      refine ⟨hsplit.1, ⟨fun b hb => hhi b hb, hsplit.2.1⟩, fun a ha b hb => ?_⟩
      rcases List.mem_cons.1 hb with rfl | hb
      · exact hlo a ha
      · exact hsplit.2.2 a ha b hb
    · rcases List.mem_append.1 hs with hs | hs
      · exact .inl (List.mem_of_mem_take hs)
      · rcases List.mem_cons.1 hs with hs | hs
        · exact .inr hs
        · exact .inl (List.mem_of_mem_drop hs)
  · exact ⟨h, Nat.le_succ _, fun s hs => .inl hs⟩
theorem xN_at {r : List Stk} {ks : List (List UInt8)} {j : Nat} (h : j < ks.length) : xN r ks (j + 1) = withF (xN r ks j) (ks.getD j []) := foldl_at [] h
structure XOkk (X : List Stk) (n : Nat) : Prop where
  rise : RiseK X
  len : X.length ≤ n
  all : ∀ s ∈ X, s.2.length ≤ 1000
theorem XOkk.next {X : List Stk} {n : Nat} (h : XOkk X n) (k : List UInt8) : XOkk (withF X k) (n + 1) := by
  obtain ⟨h1, h2, h3⟩ := withF_rise (k := k) h.rise
  refine ⟨h1, by have := h.len; omega, fun s hs => ?_⟩
  rcases h3 s hs with h4 | rfl
  · exact h.all s h4
  · exact Nat.zero_le _
def dnN (f : Stk → Stk) (l : List Stk) (i : Nat) : List Stk := ((l.take i).map f).filter fullP
theorem dnN_len (f : Stk → Stk) (l : List Stk) (i : Nat) : (dnN f l i).length ≤ i := by
  refine Nat.le_trans (List.length_filter_le _ _) ?_
  rw [List.length_map, List.length_take]; omega
theorem dnN_in {f : Stk → Stk} {l : List Stk} {i : Nat} (h : i < l.length) (hr : fullP (f (l.getD i stk0)) = true) : dnN f l (i + 1) = dnN f l i ++ [f (l.getD i stk0)] := by
  rw [dnN, take_at stk0 h, List.map_append, List.filter_append, List.map_singleton, List.filter_cons, if_pos hr]; rfl
theorem dnN_out {f : Stk → Stk} {l : List Stk} {i : Nat} (h : i < l.length) (hr : fullP (f (l.getD i stk0)) = false) : dnN f l (i + 1) = dnN f l i := by
  rw [dnN, take_at stk0 h, List.map_append, List.filter_append, List.map_singleton, List.filter_cons, if_neg (by rw [hr]; simp), List.filter_nil, List.append_nil]; rfl
def sLOver : PSpec := ⟨[.d SsT, .d MsT, .d .str, .d .str], [⟨false, [.d SsT]⟩], fun x => List.length x.1 ≤ 1000 ∧ List.length x.2.1 ≤ 1000 ∧ (∀ s ∈ x.1, List.length s.2 ≤ 1000) ∧ RiseK x.1, fun x => ((overM x.1 x.2.1 x.2.2.1 x.2.2.2.1, ()), ())⟩
theorem fLOver : FnOk Tryz.prog 17 := ⟨_, Tryz.func17, by decide, rfl⟩
theorem pLOver : PSound Tryz.prog 17 sLOver := by
  refine psound (T := tab) (S := (spOf [(22, sLRange.spec (lsOf [])), (74, sKeys.spec (lsOf [])), (75, iBinS), (76, sByKey.spec (lsOf [])), (77, sInsertT.spec), (67, iDoneO), (78, iOver1i), (79, sFold.spec (lsOf []))])) (keep := k17) (by kernel_rfl) tabOk (spCons (pOk pLRange fLRange (by decide) lsNil) (spCons (pOk pKeys fKeys (by decide) lsNil) (spCons (.inl ⟨pBinS, fBinS⟩) (spCons (pOk pByKey fByKey (by decide) lsNil) (spCons (.inl ⟨pInsertT, fInsertT⟩) (spCons (.inl ⟨pDoneO, fDoneO⟩) (spCons (.inl ⟨pOver1i, fOver1i⟩) (spCons (pOk pFold fFold (by decide) lsNil) spNil)))))))) (by kernel_rfl) Tryz.func17 (by kernel_rfl) (by decide) fun xs hg hp => ?_
  obtain ⟨l, m, lo, hi, ⟨⟩⟩ := xs
  change List Stk at l
  change List Msg at m
  change List UInt8 at lo hi
  change l.length ≤ 1000 ∧ m.length ≤ 1000 ∧ (∀ s ∈ l, List.length s.2 ≤ 1000) ∧ RiseK l at hp
  obtain ⟨hl, hm, hs, hu⟩ := hp
  clear hg
  show vfun tab _ k17 Tryz.f17 [.sl StT l, .sl MsgT m, .s lo, .s hi] [] _
  refine Ev.out ?_
  repeat' (first | ((with_reducible refine Ev.mk ?_); conv => whnf) | (with_reducible refine And.intro ?_ ?_) | (intro h))
  all_goals (try simp only [decide_eq_true_eq, decide_eq_false_iff_not, beq_iff_eq, bne_iff_ne, beq_eq_false_iff_ne, bne_eq_false_iff_eq, Int.toNat_natCast, ge_iff_le, gt_iff_lt, Bool.not_eq_true', Bool.not_eq_false', Int.not_lt, Int.not_le, ne_eq] at *)
  all_goals (try dsimp only [Ty.den, Ty.dflt, StT] at *)
  all_goals (try simp only [eq4, ne4, eq3, ne3, eq2, ne2, Prod.eta, List.length_cons, List.length_nil, List.length_append, Nat.zero_add] at *)
  all_goals (try simp (disch := omega) only [wrap64] at *)
  all_goals try first | exact leafDraw (by kernel_rfl) | exact Leaf.mk trivial | (refine Leaf.mk ?_; omega) | (refine Leaf.mk ?_; unfold maxLen; omega)
  · exact Leaf.mk (show l.length ≤ 100000 by omega)
  · exact Leaf.mk (show m.length ≤ 100000 by omega)
  rw [show (sKeys.fn (m, lo, hi, ())).1.1 = keysF lo hi m from rfl, show (sLRange.fn (l, lo, hi, ())).1.1 = l.filter (inR lo hi) from rfl]
  have hkl : (keysF lo hi m).length ≤ m.length := by rw [keysF, sortU_fold]; exact Nat.le_trans (sortU_len _) (by rw [keysL, List.length_map]; exact List.length_filter_le _ _)
  have hr0 : XOkk (l.filter (inR lo hi)) 1000 := ⟨List.Pairwise.filter _ hu, Nat.le_trans (List.length_filter_le _ _) hl, fun s h => hs s (List.mem_filter.1 h).1⟩
  generalize hks : keysF lo hi m = ks at *
  generalize hrr : l.filter (inR lo hi) = r at *
  refine LoopVC.on (fun j : Nat => [(24, .i .i64 j)]) (fun j => [(1, .arr 38 StT (xN r ks j))]) (fun j => j ≤ ks.length ∧ XOkk (xN r ks j) (1000 + j)) (fun j => ks.length - j) 0 ?_ ⟨by omega, hr0⟩ ?_
  · rfl
  intro j ⟨hj, hXo⟩
  have hnx : j < ks.length → xN r ks (j + 1) = withF (xN r ks j) (ks.getD j []) := fun h => xN_at h
  generalize hX : xN r ks j = X at *
  have hXl := hXo.len
  repeat' (first | ((with_reducible refine Ev.mk ?_); conv => whnf) | (with_reducible refine And.intro ?_ ?_) | (intro h))
  all_goals (try simp only [decide_eq_true_eq, decide_eq_false_iff_not, beq_iff_eq, bne_iff_ne, beq_eq_false_iff_ne, bne_eq_false_iff_eq, Int.toNat_natCast, ge_iff_le, gt_iff_lt, Bool.not_eq_true', Bool.not_eq_false', Int.not_lt, Int.not_le, ne_eq] at *)
  all_goals (try dsimp only [Ty.den, Ty.dflt, StT] at *)
  all_goals (try simp only [eq4, ne4, eq3, ne3, eq2, ne2, Prod.eta, List.length_cons, List.length_nil, List.length_append, Nat.zero_add] at *)
  all_goals (try simp (disch := omega) only [wrap64] at *)
  all_goals try first | exact leafDraw (by kernel_rfl) | exact Leaf.mk trivial | (refine Leaf.mk ?_; omega) | (refine Leaf.mk ?_; unfold maxLen; omega)
  · have hR := hXo.rise
    have hq := lastL_le (ks.getD j []) X X.length
    have hiff := fun a (h : a < X.length) => lastL_iff (k := ks.getD j []) hR X.length (Nat.le_refl _) a h
    generalize hqq : lastL (ks.getD j []) X X.length = q at *
    refine LoopVC.on (fun ab : Nat × Nat => [(9, .i .i64 ab.1), (10, .i .i64 ab.2)]) (fun _ => []) (fun ab => ab.1 ≤ q ∧ q ≤ ab.2 ∧ ab.2 ≤ X.length) (fun ab => ab.2 - ab.1) (0, X.length) ?_ ⟨by omega, hq, Nat.le_refl _⟩ ?_
    · rfl
    intro ⟨a, b⟩ ⟨h1, h2, h3⟩
    dsimp only at h1 h2 h3
    repeat' (first | ((with_reducible refine Ev.mk ?_); conv => whnf) | (with_reducible refine And.intro ?_ ?_) | (intro h))
    all_goals (try simp only [decide_eq_true_eq, decide_eq_false_iff_not, beq_iff_eq, bne_iff_ne, beq_eq_false_iff_ne, bne_eq_false_iff_eq, Int.toNat_natCast, ge_iff_le, gt_iff_lt, Bool.not_eq_true', Bool.not_eq_false', Int.not_lt, Int.not_le, ne_eq] at *)
    all_goals (try dsimp only [Ty.den, Ty.dflt, StT] at *)
    all_goals (try simp only [eq4, ne4, eq3, ne3, eq2, ne2, Prod.eta, List.length_cons, List.length_nil, List.length_append, Nat.zero_add] at *)
    all_goals (try simp (disch := omega) only [wrap64] at *)
    all_goals try first | exact leafDraw (by kernel_rfl) | exact Leaf.mk trivial | (refine Leaf.mk ?_; omega) | (refine Leaf.mk ?_; unfold maxLen; omega)
    all_goals try rw [mid_eq (a := a) (b := b) (by omega)] at *
    all_goals try simp only [Int.toNat_natCast] at *
    all_goals try first
      | (refine Leaf.mk ?_; omega)
      | exact Leaf.mk trivial
      | (have hlt := (cmpK_lt (X.getD ((a + b) / 2) stk0).1 (ks.getD j [])).1 (show cmpK _ _ < 0 from ‹_›)
         have := (hiff ((a + b) / 2) (by omega)).1 hlt
         refine Leaf.mk (Exists.intro ((a + b) / 2 + 1, b) ⟨?_, ⟨by dsimp only; omega, by dsimp only; omega, by dsimp only; omega⟩, by dsimp only; omega⟩)
         try rw [wrap64 (by omega)]
         rfl)
      | (have hnl : ¬ (X.getD ((a + b) / 2) stk0).1 < ks.getD j [] := fun hc => by
           have h9 := (cmpK_lt (X.getD ((a + b) / 2) stk0).1 (ks.getD j [])).2 hc
           have h8 : 0 ≤ cmpK (X.getD ((a + b) / 2) stk0).1 (ks.getD j []) := ‹_›
           omega
         have : ¬ (a + b) / 2 < q := fun hc => hnl ((hiff ((a + b) / 2) (by omega)).2 hc)
         exact Leaf.mk (Exists.intro (a, (a + b) / 2) ⟨rfl, ⟨by dsimp only; omega, by dsimp only; omega, by dsimp only; omega⟩, by dsimp only; omega⟩))
    all_goals try
      have haq : a = q := by omega
      subst haq
      have hab : b = a := by omega
      subst hab
    all_goals try first
      | (refine Leaf.mk (show (0 : Int) ≤ _ ∧ _ ≤ ((X.length : Nat) : Int) ∧ X.length + 1 ≤ 1000000 from ?_); omega)
      | (refine Leaf.mk (show inK _ _ = true from ?_)
         rw [wrapU64, Int.emod_eq_of_lt (by omega) (by omega), show (2 : Int) ^ min (Int.toNat 1) IntKind.u64.bits = 2 from rfl, Int.fdiv_eq_ediv_of_nonneg _ (by decide)]
         simp only [inK, Bool.and_eq_true, decide_eq_true_eq]; omega)
    all_goals first
      | (have hw : withF X (ks.getD j []) = X := withF_old (q := b) (by omega) ((cmpK_eq _ _).1 (show cmpK (X.getD b stk0).1 (ks.getD j []) = 0 from ‹_›))
         refine Leaf.mk (Exists.intro (j + 1) ⟨?_, ⟨by omega, by rw [hnx (by omega)]; exact hXo.next (ks.getD j [])⟩, by omega⟩)
         rw [hnx (by omega), hw]; rfl)
      | (have hw : withF X (ks.getD j []) = sInsertT.fn X ((b : Int), [(ks.getD j [], [])], ()) := by
           show _ = X.take ((b : Nat) : Int).toNat ++ ([(ks.getD j [], [])] ++ X.drop ((b : Nat) : Int).toNat)
           rw [Int.toNat_natCast]
           refine withF_new hR hqq ?_
           first
           | exact .inl (by omega)
           | exact .inr (fun hc => (show ¬ cmpK (X.getD b stk0).1 (ks.getD j []) = 0 from ‹_›) ((cmpK_eq _ _).2 hc))
         refine Leaf.mk (Exists.intro (j + 1) ⟨?_, ⟨by omega, by rw [hnx (by omega)]; exact hXo.next (ks.getD j [])⟩, by omega⟩)
         rw [hnx (by omega), hw]; rfl)
  have hjj : xN r ks ks.length = X := by rw [← hX, show j = ks.length by omega]
  refine LoopVC.weak [(.slot 5, .nil 38 StT)] (fun i : Nat => [(11, .i .i64 i)]) (fun i => [(18, .arr 38 StT (dnN (fun s => foldM s m) X i))]) (fun i => i ≤ X.length) (fun i => X.length - i) 0 (Ev.mk ?_)
  (conv => whnf)
  refine ⟨Leaf.mk rfl, Leaf.mk ?_, ?_⟩
  · omega
  intro i hii
  have hdl := dnN_len (fun s => foldM s m) X i
  repeat' (first | ((with_reducible refine Ev.mk ?_); conv => whnf) | (with_reducible refine And.intro ?_ ?_) | (intro h))
  all_goals (try simp only [decide_eq_true_eq, decide_eq_false_iff_not, beq_iff_eq, bne_iff_ne, beq_eq_false_iff_ne, bne_eq_false_iff_eq, Int.toNat_natCast, ge_iff_le, gt_iff_lt, Bool.not_eq_true', Bool.not_eq_false', Int.not_lt, Int.not_le, ne_eq] at *)
  all_goals (try dsimp only [Ty.den, Ty.dflt, StT] at *)
  all_goals (try simp only [eq4, ne4, eq3, ne3, eq2, ne2, Prod.eta, List.length_cons, List.length_nil, List.length_append, Nat.zero_add] at *)
  all_goals (try simp (disch := omega) only [wrap64] at *)
  all_goals try first | exact leafDraw (by kernel_rfl) | exact Leaf.mk trivial | (refine Leaf.mk ?_; omega) | (refine Leaf.mk ?_; unfold maxLen; omega)
  all_goals first
    | (refine Leaf.mk ?_; omega)
    | (refine Leaf.mk ?_; unfold maxLen; omega)
    | (have := hXo.all _ (getD_mem stk0 (show i < X.length by omega))
       exact Leaf.mk (show (X.getD i stk0).2.length + m.length ≤ 50000 by omega))
    | (have h9 : (0 : Int) < (((foldM (X.getD i stk0) m).2.length : Nat) : Int) := ‹_›
       refine Leaf.mk ⟨i + 1, ?_, by omega, by omega⟩
       rw [dnN_in (by omega) (decide_eq_true (by omega))]; rfl)
    | (have h9 : (((foldM (X.getD i stk0) m).2.length : Nat) : Int) ≤ 0 := ‹_›
       refine Leaf.mk ⟨i + 1, ?_, by omega, by omega⟩
       rw [dnN_out (by omega) (decide_eq_false (by omega))]; rfl)
    | (refine Leaf.mk (ret1 (show dnN (fun s => foldM s m) X i = overM l m lo hi from ?_))
       rw [dnN, take_all (show X.length ≤ i by omega), overM, hks, hrr, ← hjj, xN, List.take_length])
end Go.Proofs.YtkmfjlfejdoehaaGreat

set_option linter.unusedVariables false
set_option linter.unusedSimpArgs false
set_option maxRecDepth 8000
set_option maxHeartbeats 4000000
namespace Go.Proofs.YtkmfjlfejdoehaaGreat
open Go.Eng
theorem fApply1i : FnOk Tryz.prog 68 := ⟨_, Tryz.func68, by decide, rfl⟩
noncomputable def iApply1i : Eng.Spec := inl tab (spOf [(69, sApply.spec (lsOf []))]) k68 Tryz.f68
theorem pApply1i : SpecOk Tryz.prog 68 iApply1i := inl_ok tabOk (spCons (pOk pApply fApply (by decide) lsNil) spNil) (by kernel_rfl) Tryz.func68 (by kernel_rfl)
theorem fDoneA : FnOk Tryz.prog 67 := ⟨_, Tryz.func67, by decide, rfl⟩
noncomputable def iDoneA : Eng.Spec := inl tab (spOf [(68, iApply1i)]) k67 Tryz.f67
theorem pDoneA : SpecOk Tryz.prog 67 iDoneA := inl_ok tabOk (spCons (.inl ⟨pApply1i, fApply1i⟩) spNil) (by kernel_rfl) Tryz.func67 (by kernel_rfl)
def baseL (l : List Stk) (m : Msg) : List Stk := if m.1 = 0 ∧ mcheck m = 0 then withF l m.2.1 else l
def applyL (l : List Stk) (m : Msg) : List Stk := ((baseL l m).map fun s => applyM s m).filter fullP
theorem withF_len' (X : List Stk) (k : List UInt8) : (withF X k).length ≤ X.length + 1 ∧ ∀ s ∈ withF X k, s ∈ X ∨ s = (k, []) := by
  have hle := lastL_le k X X.length
  rw [withF]
  split
  · refine ⟨by simp only [List.length_append, List.length_cons, List.length_take, List.length_drop]; omega, fun s hs => ?_⟩
    rcases List.mem_append.1 hs with hs | hs
    · exact .inl (List.mem_of_mem_take hs)
    · rcases List.mem_cons.1 hs with hs | hs
      · exact .inr hs
      · exact .inl (List.mem_of_mem_drop hs)
  · exact ⟨Nat.le_succ _, fun s hs => .inl hs⟩
theorem baseL_ok {l : List Stk} (m : Msg) (hl : l.length ≤ 1000) (hs : ∀ s ∈ l, s.2.length ≤ 1000) : (baseL l m).length ≤ 1001 ∧ ∀ s ∈ baseL l m, s.2.length ≤ 1000 := by
  rw [baseL]
  split
  · have h := withF_len' l m.2.1
    refine ⟨by omega, fun s h1 => ?_⟩
    rcases h.2 s h1 with h2 | rfl
    · exact hs s h2
    · exact Nat.zero_le _
  · exact ⟨by omega, hs⟩
def sLApply : PSpec := ⟨[.st SsT, .d MsgT], [⟨true, [.d SsT]⟩], fun x => List.length x.1 ≤ 1000 ∧ ∀ s ∈ x.1, List.length s.2 ≤ 1000, fun x => ((applyL x.1 x.2.1, ()), ())⟩
theorem fLApply : FnOk Tryz.prog 15 := ⟨_, Tryz.func15, by decide, rfl⟩
theorem pLApply : PSound Tryz.prog 15 sLApply := by
  refine psound (T := tab) (S := (spOf [(65, sMCheck.spec (lsOf [])), (66, sLWith.spec (lsOf [])), (67, iDoneA), (68, iApply1i), (69, sApply.spec (lsOf []))])) (keep := k15) (by kernel_rfl) tabOk (spCons (pOk pMCheck fMCheck (by decide) lsNil) (spCons (pOk pLWith fLWith (by decide) lsNil) (spCons (.inl ⟨pDoneA, fDoneA⟩) (spCons (.inl ⟨pApply1i, fApply1i⟩) (spCons (pOk pApply fApply (by decide) lsNil) spNil))))) (by kernel_rfl) Tryz.func15 (by kernel_rfl) (by decide) fun xs hg hp => ?_
  obtain ⟨l, ⟨kind, key, txn, ts, gone, val⟩, ⟨⟩⟩ := xs
  change List Stk at l
  change l.length ≤ 1000 ∧ ∀ s ∈ l, List.length s.2 ≤ 1000 at hp
  obtain ⟨hl, hs⟩ := hp
  change List UInt8 at key
  change List UInt8 at val
  change Int at kind txn ts
  change Bool at gone
  clear hg
  show vfun tab _ k15 Tryz.f15 [.agg [.sl StT l], .agg [.i .u8 kind, .s key, .i .i64 txn, .i .i64 ts, .b gone, .s val]] [] _
  refine Ev.out ?_
  repeat' (first | ((with_reducible refine Ev.mk ?_); conv => whnf) | (with_reducible refine And.intro ?_ ?_) | (intro h))
  all_goals (try simp only [decide_eq_true_eq, decide_eq_false_iff_not, beq_iff_eq, bne_iff_ne, beq_eq_false_iff_ne, bne_eq_false_iff_eq, Int.toNat_natCast, ge_iff_le, gt_iff_lt, Bool.not_eq_true', Bool.not_eq_false', Int.not_lt, Int.not_le, ne_eq] at *)
  all_goals (try dsimp only [Ty.den, Ty.dflt, StT, MsgT] at *)
  all_goals (try simp only [eq4, ne4, eq3, ne3, eq2, ne2, Prod.eta, List.length_cons, List.length_nil, List.length_append, Nat.zero_add] at *)
  all_goals (try simp (disch := omega) only [wrap64] at *)
  all_goals try first | exact leafDraw (by kernel_rfl) | exact Leaf.mk trivial | (refine Leaf.mk ?_; omega) | (refine Leaf.mk ?_; unfold maxLen; omega)
  · exact Leaf.mk (show l.length ≤ 100000 by omega)
  all_goals
    have hB := baseL_ok (l := l) (kind, key, txn, ts, gone, val) hl hs
    have hA : applyL l (kind, key, txn, ts, gone, val) = ((baseL l (kind, key, txn, ts, gone, val)).map fun s => applyM s (kind, key, txn, ts, gone, val)).filter fullP := rfl
  · rw [show (sLWith.fn (l, key, ())).1.1 = baseL l (kind, key, txn, ts, gone, val) from (if_pos ⟨by assumption, by assumption⟩).symm]
    generalize baseL l (kind, key, txn, ts, gone, val) = X at *
    refine LoopVC.weak [(.slot 5, .nil 38 StT)] (fun i : Nat => [(11, .i .i64 i)]) (fun i => [(18, .arr 38 StT (dnN (fun s => applyM s (kind, key, txn, ts, gone, val)) X i))]) (fun i => i ≤ X.length) (fun i => X.length - i) 0 (Ev.mk ?_)
    (conv => whnf)
    refine ⟨Leaf.mk rfl, Leaf.mk ?_, ?_⟩
    · omega
    intro i hii
    have hdl := dnN_len (fun s => applyM s (kind, key, txn, ts, gone, val)) X i
    repeat' (first | ((with_reducible refine Ev.mk ?_); conv => whnf) | (with_reducible refine And.intro ?_ ?_) | (intro h))
    all_goals (try simp only [decide_eq_true_eq, decide_eq_false_iff_not, beq_iff_eq, bne_iff_ne, beq_eq_false_iff_ne, bne_eq_false_iff_eq, Int.toNat_natCast, ge_iff_le, gt_iff_lt, Bool.not_eq_true', Bool.not_eq_false', Int.not_lt, Int.not_le, ne_eq] at *)
    all_goals (try dsimp only [Ty.den, Ty.dflt, StT, MsgT] at *)
    all_goals (try simp only [eq4, ne4, eq3, ne3, eq2, ne2, Prod.eta, List.length_cons, List.length_nil, List.length_append, Nat.zero_add] at *)
    all_goals (try simp (disch := omega) only [wrap64] at *)
    all_goals try first | exact leafDraw (by kernel_rfl) | exact Leaf.mk trivial | (refine Leaf.mk ?_; omega) | (refine Leaf.mk ?_; unfold maxLen; omega)
    all_goals first
      | (refine Leaf.mk ?_; omega)
      | (refine Leaf.mk ?_; unfold maxLen; omega)
      | (have := hB.2 _ (getD_mem stk0 (show i < X.length by omega))
         exact Leaf.mk (show (X.getD i stk0).2.length ≤ 100000 by omega))
      | (have h9 : (0 : Int) < (((applyM (X.getD i stk0) (kind, key, txn, ts, gone, val)).2.length : Nat) : Int) := ‹_›
         refine Leaf.mk ⟨i + 1, ?_, by omega, by omega⟩
         rw [dnN_in (by omega) (decide_eq_true (by omega))]; rfl)
      | (have h9 : (((applyM (X.getD i stk0) (kind, key, txn, ts, gone, val)).2.length : Nat) : Int) ≤ 0 := ‹_›
         refine Leaf.mk ⟨i + 1, ?_, by omega, by omega⟩
         rw [dnN_out (by omega) (decide_eq_false (by omega))]; rfl)
      | (refine Leaf.mk (ret1 (show dnN (fun s => applyM s (kind, key, txn, ts, gone, val)) X i = applyL l (kind, key, txn, ts, gone, val) from ?_))
         rw [dnN, take_all (show X.length ≤ i by omega), hA])
  · have hb : baseL l (kind, key, txn, ts, gone, val) = l := if_neg (fun hc => h hc.2)
    rw [hb] at hA hB
    refine LoopVC.weak [(.slot 5, .nil 38 StT)] (fun i : Nat => [(11, .i .i64 i)]) (fun i => [(18, .arr 38 StT (dnN (fun s => applyM s (kind, key, txn, ts, gone, val)) l i))]) (fun i => i ≤ l.length) (fun i => l.length - i) 0 (Ev.mk ?_)
    (conv => whnf)
    refine ⟨Leaf.mk rfl, Leaf.mk ?_, ?_⟩
    · omega
    intro i hii
    have hdl := dnN_len (fun s => applyM s (kind, key, txn, ts, gone, val)) l i
    repeat' (first | ((with_reducible refine Ev.mk ?_); conv => whnf) | (with_reducible refine And.intro ?_ ?_) | (intro h))
    all_goals (try simp only [decide_eq_true_eq, decide_eq_false_iff_not, beq_iff_eq, bne_iff_ne, beq_eq_false_iff_ne, bne_eq_false_iff_eq, Int.toNat_natCast, ge_iff_le, gt_iff_lt, Bool.not_eq_true', Bool.not_eq_false', Int.not_lt, Int.not_le, ne_eq] at *)
    all_goals (try dsimp only [Ty.den, Ty.dflt, StT, MsgT] at *)
    all_goals (try simp only [eq4, ne4, eq3, ne3, eq2, ne2, Prod.eta, List.length_cons, List.length_nil, List.length_append, Nat.zero_add] at *)
    all_goals (try simp (disch := omega) only [wrap64] at *)
    all_goals try first | exact leafDraw (by kernel_rfl) | exact Leaf.mk trivial | (refine Leaf.mk ?_; omega) | (refine Leaf.mk ?_; unfold maxLen; omega)
    all_goals first
      | (refine Leaf.mk ?_; omega)
      | (refine Leaf.mk ?_; unfold maxLen; omega)
      | (have := hB.2 _ (getD_mem stk0 (show i < l.length by omega))
         exact Leaf.mk (show (l.getD i stk0).2.length ≤ 100000 by omega))
      | (have h9 : (0 : Int) < (((applyM (l.getD i stk0) (kind, key, txn, ts, gone, val)).2.length : Nat) : Int) := ‹_›
         refine Leaf.mk ⟨i + 1, ?_, by omega, by omega⟩
         rw [dnN_in (by omega) (decide_eq_true (by omega))]; rfl)
      | (have h9 : (((applyM (l.getD i stk0) (kind, key, txn, ts, gone, val)).2.length : Nat) : Int) ≤ 0 := ‹_›
         refine Leaf.mk ⟨i + 1, ?_, by omega, by omega⟩
         rw [dnN_out (by omega) (decide_eq_false (by omega))]; rfl)
      | (refine Leaf.mk (ret1 (show dnN (fun s => applyM s (kind, key, txn, ts, gone, val)) l i = applyL l (kind, key, txn, ts, gone, val) from ?_))
         rw [dnN, take_all (show l.length ≤ i by omega), hA])
  · have hb : baseL l (kind, key, txn, ts, gone, val) = l := if_neg (fun hc => h hc.1)
    rw [hb] at hA hB
    refine LoopVC.weak [(.slot 5, .nil 38 StT)] (fun i : Nat => [(11, .i .i64 i)]) (fun i => [(18, .arr 38 StT (dnN (fun s => applyM s (kind, key, txn, ts, gone, val)) l i))]) (fun i => i ≤ l.length) (fun i => l.length - i) 0 (Ev.mk ?_)
    (conv => whnf)
    refine ⟨Leaf.mk rfl, Leaf.mk ?_, ?_⟩
    · omega
    intro i hii
    have hdl := dnN_len (fun s => applyM s (kind, key, txn, ts, gone, val)) l i
    repeat' (first | ((with_reducible refine Ev.mk ?_); conv => whnf) | (with_reducible refine And.intro ?_ ?_) | (intro h))
    all_goals (try simp only [decide_eq_true_eq, decide_eq_false_iff_not, beq_iff_eq, bne_iff_ne, beq_eq_false_iff_ne, bne_eq_false_iff_eq, Int.toNat_natCast, ge_iff_le, gt_iff_lt, Bool.not_eq_true', Bool.not_eq_false', Int.not_lt, Int.not_le, ne_eq] at *)
    all_goals (try dsimp only [Ty.den, Ty.dflt, StT, MsgT] at *)
    all_goals (try simp only [eq4, ne4, eq3, ne3, eq2, ne2, Prod.eta, List.length_cons, List.length_nil, List.length_append, Nat.zero_add] at *)
    all_goals (try simp (disch := omega) only [wrap64] at *)
    all_goals try first | exact leafDraw (by kernel_rfl) | exact Leaf.mk trivial | (refine Leaf.mk ?_; omega) | (refine Leaf.mk ?_; unfold maxLen; omega)
    all_goals first
      | (refine Leaf.mk ?_; omega)
      | (refine Leaf.mk ?_; unfold maxLen; omega)
      | (have := hB.2 _ (getD_mem stk0 (show i < l.length by omega))
         exact Leaf.mk (show (l.getD i stk0).2.length ≤ 100000 by omega))
      | (have h9 : (0 : Int) < (((applyM (l.getD i stk0) (kind, key, txn, ts, gone, val)).2.length : Nat) : Int) := ‹_›
         refine Leaf.mk ⟨i + 1, ?_, by omega, by omega⟩
         rw [dnN_in (by omega) (decide_eq_true (by omega))]; rfl)
      | (have h9 : (((applyM (l.getD i stk0) (kind, key, txn, ts, gone, val)).2.length : Nat) : Int) ≤ 0 := ‹_›
         refine Leaf.mk ⟨i + 1, ?_, by omega, by omega⟩
         rw [dnN_out (by omega) (decide_eq_false (by omega))]; rfl)
      | (refine Leaf.mk (ret1 (show dnN (fun s => applyM s (kind, key, txn, ts, gone, val)) l i = applyL l (kind, key, txn, ts, gone, val) from ?_))
         rw [dnN, take_all (show l.length ≤ i by omega), hA])
end Go.Proofs.YtkmfjlfejdoehaaGreat

set_option linter.unusedVariables false
set_option linter.unusedSimpArgs false
set_option maxRecDepth 8000
set_option maxHeartbeats 4000000
namespace Go.Proofs.YtkmfjlfejdoehaaGreat
open Go.Eng
def sumN (l : List Stk) : Nat := (l.flatMap one).length
theorem sumN_nil : sumN [] = 0 := rfl
theorem sumN_cons (s : Stk) (l : List Stk) : sumN (s :: l) = (one s).length + sumN l := by simp [sumN]
theorem sumN_app (a b : List Stk) : sumN (a ++ b) = sumN a + sumN b := by simp [sumN]
theorem sumN_at {l : List Stk} {i : Nat} (h : i < l.length) : sumN (l.take (i + 1)) = sumN (l.take i) + (one (l.getD i stk0)).length := by
  rw [take_at stk0 h, sumN_app, sumN_cons, sumN_nil]; rfl
theorem sumN_cut (l : List Stk) (k : Nat) : sumN (l.take k) + sumN (l.drop k) = sumN l := by rw [← sumN_app, List.take_append_drop]
theorem sumN_le (l : List Stk) : sumN l ≤ l.length * 604 := flat_lenS one 604 one_len l
def greatN (l : List Stk) (k : Nat) : Nat := if sumN (l.take k) ≤ sumN (l.drop k) then sumN (l.drop k) else sumN (l.take k)
theorem greatN_le (l : List Stk) (k : Nat) : sumN (l.take k) ≤ greatN l k ∧ sumN (l.drop k) ≤ greatN l k ∧ greatN l k ≤ sumN l := by
  have := sumN_cut l k
  rw [greatN]; split <;> omega
def bestN (l : List Stk) : Nat → Nat
  | 0 => 1
  | n + 1 => if 2 ≤ n ∧ greatN l n < greatN l (bestN l n) then n else bestN l n
theorem bestN_bd (l : List Stk) : ∀ n, 1 ≤ bestN l n ∧ (2 ≤ n → bestN l n < n)
  | 0 => ⟨Nat.le_refl _, fun h => by omega⟩
  | n + 1 => by
    have ih := bestN_bd l n
    rw [bestN]
    split
    · omega
    · refine ⟨ih.1, fun h => ?_⟩
      by_cases h2 : 2 ≤ n
      · have := ih.2 h2; omega
      · have : n = 1 := by omega
        subst this; show 1 < 2; omega
theorem bestN_min (l : List Stk) : ∀ n k, 1 ≤ k → k < n → greatN l (bestN l n) ≤ greatN l k
  | 0, k, _, h => by omega
  | n + 1, k, h1, h => by
    rw [bestN]
    split
    · rename_i hc
      by_cases hk : k = n
      · subst hk; exact Nat.le_refl _
      · have := bestN_min l n k h1 (by omega); omega
    · rename_i hc
      by_cases hk : k = n
      · subst hk
        by_cases h2 : 2 ≤ k
        · have h3 : ¬ greatN l k < greatN l (bestN l k) := fun hx => hc ⟨h2, hx⟩
          omega
        · have : k = 1 := by omega
          subst this; exact Nat.le_refl _
      · exact bestN_min l n k h1 (by omega)
def splitF (l : List Stk) : List Stk × List Stk × List UInt8 := if l.length < 2 then (l, [], []) else (l.take (bestN l l.length), l.drop (bestN l l.length), (l.getD (bestN l l.length) stk0).1)
theorem ret3 {u v : List Stk × List Stk × List UInt8} (h : u = v) : (some ((u.1, ()), (u.2.1, ()), (u.2.2, ()), ()) : Option ((List Stk × Unit) × (List Stk × Unit) × (List UInt8 × Unit) × Unit)) = some ((v.1, ()), (v.2.1, ()), (v.2.2, ()), ()) := by rw [h]
def sLSplit : PSpec := ⟨[.st SsT], [⟨true, [.d SsT]⟩, ⟨true, [.d SsT]⟩, ⟨false, [.d .str]⟩], fun x => List.length x.1 ≤ 100000, fun x => (((splitF x.1).1, ()), ((splitF x.1).2.1, ()), ((splitF x.1).2.2, ()), ())⟩
def kN (l : List Stk) (i : Nat) : Nat := if i = 0 then 0 else bestN l (i + 1)
def lN (l : List Stk) (i : Nat) : Nat := if i = 0 then 0 else greatN l (bestN l (i + 1))
theorem kN_new {l : List Stk} {i : Nat} (h : kN l i = 0 ∨ greatN l (i + 1) < lN l i) : kN l (i + 1) = i + 1 ∧ lN l (i + 1) = greatN l (i + 1) := by
  have hb := bestN_bd l (i + 1)
  have e : bestN l (i + 2) = i + 1 := by
    rw [bestN]
    by_cases hi : i = 0
    · subst hi; rfl
    · rw [if_pos]
      rw [kN, if_neg hi, lN, if_neg hi] at h
      rcases h with h | h
      · omega
      · exact ⟨by omega, h⟩
  rw [kN, lN, if_neg (by omega), if_neg (by omega), e]; exact ⟨rfl, rfl⟩
theorem kN_old {l : List Stk} {i : Nat} (h : ¬ kN l i = 0) (h2 : lN l i ≤ greatN l (i + 1)) : kN l (i + 1) = kN l i ∧ lN l (i + 1) = lN l i := by
  have hi : ¬ i = 0 := fun hc => h (by rw [kN, if_pos hc])
  rw [lN, if_neg hi] at h2
  have e : bestN l (i + 2) = bestN l (i + 1) := by
    rw [bestN, if_neg (fun hc => by omega)]
  have hi1 : ¬ i + 1 = 0 := by omega
  simp only [kN, lN, if_neg hi, if_neg hi1]
  rw [e]; exact ⟨rfl, rfl⟩
theorem kN_le (l : List Stk) (i : Nat) : kN l i ≤ i := by
  rw [kN]; split
  · omega
  · have := (bestN_bd l (i + 1)).2 (by omega); omega
theorem fLSplit : FnOk Tryz.prog 29 := ⟨_, Tryz.func29, by decide, rfl⟩
theorem pLSplit : PSound Tryz.prog 29 sLSplit := by
  refine psound (T := tab) (S := (spOf [(92, sCloneT.spec (lsOf [])), (93, sOne.spec (lsOf []))])) (keep := k29) (by kernel_rfl) tabOk (spCons (pOk pCloneT fCloneT (by decide) lsNil) (spCons (pOk pOne fOne (by decide) lsNil) spNil)) (by kernel_rfl) Tryz.func29 (by kernel_rfl) (by decide) fun xs hg hp => ?_
  obtain ⟨l, ⟨⟩⟩ := xs
  change List Stk at l
  change l.length ≤ 100000 at hp
  clear hg
  show vfun tab _ k29 Tryz.f29 [.agg [.sl StT l]] [] _
  refine Ev.out ?_
  repeat' (first | ((with_reducible refine Ev.mk ?_); conv => whnf) | (with_reducible refine And.intro ?_ ?_) | (intro h))
  all_goals (try simp only [decide_eq_true_eq, decide_eq_false_iff_not, beq_iff_eq, bne_iff_ne, beq_eq_false_iff_ne, bne_eq_false_iff_eq, Int.toNat_natCast, ge_iff_le, gt_iff_lt, Bool.not_eq_true', Bool.not_eq_false', Int.not_lt, Int.not_le, ne_eq] at *)
  all_goals (try dsimp only [Ty.den, Ty.dflt, StT] at *)
  all_goals (try simp only [eq4, ne4, eq3, ne3, eq2, ne2, Prod.eta, List.length_cons, List.length_nil, List.length_append, Nat.zero_add] at *)
  all_goals (try simp (disch := omega) only [wrap64] at *)
  all_goals try first | exact leafDraw (by kernel_rfl) | exact Leaf.mk trivial | (refine Leaf.mk ?_; omega) | (refine Leaf.mk ?_; unfold maxLen; omega)
  · exact Leaf.mk (show l.length ≤ 1000000 by omega)
  · refine Leaf.mk (ret3 (u := (l, [], [])) (v := splitF l) ?_)
    rw [splitF, if_pos (by omega)]
  refine LoopVC.on (fun i : Nat => [(5, .i .i64 (sumN (l.take i) : Nat)), (26, .i .i64 i)]) (fun _ => []) (fun i => i ≤ l.length) (fun i => l.length - i) 0 rfl (by omega) ?_
  intro i hi
  have h1 := sumN_le (l.take i)
  rw [List.length_take] at h1
  have h2 := one_len (l.getD i stk0)
  repeat' (first | ((with_reducible refine Ev.mk ?_); conv => whnf) | (with_reducible refine And.intro ?_ ?_) | (intro h))
  all_goals (try simp only [decide_eq_true_eq, decide_eq_false_iff_not, beq_iff_eq, bne_iff_ne, beq_eq_false_iff_ne, bne_eq_false_iff_eq, Int.toNat_natCast, ge_iff_le, gt_iff_lt, Bool.not_eq_true', Bool.not_eq_false', Int.not_lt, Int.not_le, ne_eq] at *)
  all_goals (try dsimp only [Ty.den, Ty.dflt, StT] at *)
  all_goals (try simp only [eq4, ne4, eq3, ne3, eq2, ne2, Prod.eta, List.length_cons, List.length_nil, List.length_append, Nat.zero_add] at *)
  all_goals (try simp (disch := omega) only [wrap64] at *)
  all_goals try first | exact leafDraw (by kernel_rfl) | exact Leaf.mk trivial | (refine Leaf.mk ?_; omega) | (refine Leaf.mk ?_; unfold maxLen; omega)
  · refine Leaf.mk (Exists.intro (i + 1) ⟨?_, by omega, by omega⟩)
    rw [show (sOne.fn (l.getD i ([], []), ())).1.1 = one (l.getD i stk0) from rfl, wrap64 (by omega), sumN_at (by omega)]; rfl
  have hall := sumN_le l
  obtain rfl : i = l.length := by omega
  have hM : (l.take ((l.length : Int) - 1).toNat).drop (Int.toNat 0) = l.take (l.length - 1) := by rw [show ((l.length : Int) - 1).toNat = l.length - 1 by omega]; rfl
  have hMl : (l.take (l.length - 1)).length = l.length - 1 := by rw [List.length_take]; omega
  have hMg : ∀ i, i < l.length - 1 → (l.take (l.length - 1)).getD i stk0 = l.getD i stk0 := fun i hi => by rw [List.getD_eq_getElem?_getD, List.getElem?_take, if_pos hi, ← List.getD_eq_getElem?_getD]
  rw [hM, List.take_length]
  generalize l.take (l.length - 1) = M at *
  refine LoopVC.on (fun i : Nat => [(8, .i .i64 (kN l i : Nat)), (9, .i .i64 (lN l i : Nat)), (10, .i .i64 (sumN (l.take i) : Nat)), (44, .i .i64 i)]) (fun _ => []) (fun i => i ≤ l.length - 1) (fun i => l.length - i) 0 rfl (by omega) ?_
  intro i hi
  have h1 := sumN_le (l.take i)
  rw [List.length_take] at h1
  have h2 := one_len (l.getD i stk0)
  repeat' (first | ((with_reducible refine Ev.mk ?_); conv => whnf) | (with_reducible refine And.intro ?_ ?_) | (intro h))
  all_goals (try simp only [decide_eq_true_eq, decide_eq_false_iff_not, beq_iff_eq, bne_iff_ne, beq_eq_false_iff_ne, bne_eq_false_iff_eq, Int.toNat_natCast, ge_iff_le, gt_iff_lt, Bool.not_eq_true', Bool.not_eq_false', Int.not_lt, Int.not_le, ne_eq] at *)
  all_goals (try dsimp only [Ty.den, Ty.dflt, StT] at *)
  all_goals (try simp only [eq4, ne4, eq3, ne3, eq2, ne2, Prod.eta, List.length_cons, List.length_nil, List.length_append, Nat.zero_add] at *)
  all_goals (try simp (disch := omega) only [wrap64] at *)
  all_goals try first | exact leafDraw (by kernel_rfl) | exact Leaf.mk trivial | (refine Leaf.mk ?_; omega) | (refine Leaf.mk ?_; unfold maxLen; omega)
  all_goals
    have hs : i < l.length - 1 → IntKind.i64.wrap (((sumN (l.take i) : Nat) : Int) + ((List.length (α := Int) (sOne.fn (M.getD i ([], []), ())).1.1 : Nat) : Int)) = ((sumN (l.take (i + 1)) : Nat) : Int) := fun h => by
      rw [show (sOne.fn (M.getD i ([], []), ())).1.1 = one (M.getD i stk0) from rfl, hMg i h, wrap64 (by omega), sumN_at (by omega)]; rfl
  all_goals try
    have hil : i < l.length - 1 := by omega
    have hcut := sumN_cut l (i + 1)
    have hg : (if ((sumN (l.take (i + 1)) : Nat) : Int) < IntKind.i64.wrap (((sumN l : Nat) : Int) - ((sumN (l.take (i + 1)) : Nat) : Int)) then IntKind.i64.wrap (((sumN l : Nat) : Int) - ((sumN (l.take (i + 1)) : Nat) : Int)) else ((sumN (l.take (i + 1)) : Nat) : Int)) = ((greatN l (i + 1) : Nat) : Int) := by
      rw [wrap64 (by omega), greatN]
      split <;> split <;> omega
    simp only [hs hil, hg] at *
  · obtain ⟨k1, k2⟩ := kN_new (l := l) (i := i) (.inl (by omega))
    refine Leaf.mk (Exists.intro (i + 1) ⟨?_, by omega, by omega⟩)
    rw [k1, k2]; rfl
  · obtain ⟨k1, k2⟩ := kN_new (l := l) (i := i) (.inr (by omega))
    refine Leaf.mk (Exists.intro (i + 1) ⟨?_, by omega, by omega⟩)
    rw [k1, k2]; rfl
  · obtain ⟨k1, k2⟩ := kN_old (l := l) (i := i) (by omega) (by omega)
    refine Leaf.mk (Exists.intro (i + 1) ⟨?_, by omega, by omega⟩)
    rw [k1, k2]; rfl
  all_goals
    have hkl := kN_le l i
  · refine Leaf.mk ?_; omega
  · refine Leaf.mk (show List.length _ ≤ 1000000 from ?_)
    rw [List.length_drop, List.length_take]; omega
  · refine Leaf.mk ?_; omega
  · refine Leaf.mk (show List.length _ ≤ 1000000 from ?_)
    rw [List.length_drop, List.length_take]; omega
  · refine Leaf.mk ?_; omega
  · have hk : kN l i = bestN l l.length := by rw [kN, if_neg (by omega), show i + 1 = l.length by omega]
    refine Leaf.mk (ret3 (u := ((l.take (kN l i)).drop (Int.toNat 0), (l.take l.length).drop (kN l i), (l.getD (kN l i) ([], [])).1)) (v := splitF l) ?_)
    rw [splitF, if_neg (by omega), List.take_length, hk]; rfl
theorem fGrowT : FnOk Tryz.prog 167 := ⟨_, Tryz.func167, by decide, rfl⟩
noncomputable def iGrowT : Eng.Spec := inl tab (spOf []) k167 Tryz.f167
theorem pGrowT : SpecOk Tryz.prog 167 iGrowT := inl_ok tabOk spNil (by kernel_rfl) Tryz.func167 (by kernel_rfl)
def sConcatT : PSpec := ⟨[.d (.slice (.slice StT))], [⟨false, [.d (.slice StT)]⟩], fun x => List.length x.1 ≤ 1000 ∧ List.length (List.flatten (α := Stk) x.1) ≤ 1000000, fun x => ((List.flatten (α := Stk) x.1, ()), ())⟩
theorem fConcatT : FnOk Tryz.prog 102 := ⟨_, Tryz.func102, by decide, rfl⟩
theorem pConcatT : PSound Tryz.prog 102 sConcatT := by
  refine psound (T := tab) (S := (spOf [(167, iGrowT)])) (keep := k102) (by kernel_rfl) tabOk (spCons (.inl ⟨pGrowT, fGrowT⟩) spNil) (by kernel_rfl) Tryz.func102 (by kernel_rfl) (by decide) fun xs hg hp => ?_
  obtain ⟨xs, ⟨⟩⟩ := xs
  change List (List Stk) at xs
  change xs.length ≤ 1000 ∧ xs.flatten.length ≤ 1000000 at hp
  obtain ⟨hp, hf⟩ := hp
  show vfun tab _ k102 Tryz.f102 [.sl (.slice StT) xs] [] _
  refine Ev.out ?_
  repeat' (first | ((with_reducible refine Ev.mk ?_); conv => whnf) | (with_reducible refine And.intro ?_ ?_) | (intro h))
  refine LoopVC.on (fun i : Nat => [(11, .i .i64 i), (3, .i .i64 ((xs.take i).flatten.length : Nat))]) (fun _ => []) (fun i => i ≤ xs.length) (fun i => xs.length - i) 0 rfl (by omega) ?_
  intro i hi
  have hle := flat_le (xs := xs) i
  have hge := fun h => flat_get (xs := xs) (i := i) h
  repeat' (first | ((with_reducible refine Ev.mk ?_); conv => whnf) | (with_reducible refine And.intro ?_ ?_) | (intro h))
  all_goals (try simp only [decide_eq_true_eq, decide_eq_false_iff_not, beq_iff_eq, bne_iff_ne, beq_eq_false_iff_ne, bne_eq_false_iff_eq, Int.toNat_natCast, ge_iff_le, gt_iff_lt, Bool.not_eq_true', Bool.not_eq_false', Int.not_lt, Int.not_le, ne_eq] at *)
  all_goals (try dsimp only [Ty.den, Ty.dflt, StT] at *)
  all_goals (try simp only [eq4, ne4, eq3, ne3, eq2, ne2, Prod.eta, List.length_cons, List.length_nil, List.length_append, Nat.zero_add] at *)
  all_goals (try simp (disch := omega) only [wrap64] at *)
  all_goals try first | exact leafDraw (by kernel_rfl) | exact Leaf.mk trivial | (refine Leaf.mk ?_; omega) | (refine Leaf.mk ?_; unfold maxLen; omega)
  · omega
  · refine Leaf.mk ⟨i + 1, ?_, by omega, by omega⟩
    rw [flat_at (by omega), List.length_append]; simp only [Int.natCast_add]; rfl
  · omega
  · refine LoopVC.on (fun j : Nat => [(27, .i .i64 j)]) (fun j => [(0, .arr 38 StT (xs.take j).flatten)]) (fun j => j ≤ xs.length) (fun j => xs.length - j) 0 rfl (by omega) ?_
    intro j hj
    have hle := flat_le (xs := xs) j
    have hge := fun h => flat_get (xs := xs) (i := j) h
    repeat' (first | ((with_reducible refine Ev.mk ?_); conv => whnf) | (with_reducible refine And.intro ?_ ?_) | (intro h))
    all_goals (try simp only [decide_eq_true_eq, decide_eq_false_iff_not, beq_iff_eq, bne_iff_ne, beq_eq_false_iff_ne, bne_eq_false_iff_eq, Int.toNat_natCast, ge_iff_le, gt_iff_lt, Bool.not_eq_true', Bool.not_eq_false', Int.not_lt, Int.not_le, ne_eq] at *)
    all_goals (try dsimp only [Ty.den, Ty.dflt, StT] at *)
    all_goals (try simp only [eq4, ne4, eq3, ne3, eq2, ne2, Prod.eta, List.length_cons, List.length_nil, List.length_append, Nat.zero_add] at *)
    all_goals (try simp (disch := omega) only [wrap64] at *)
    all_goals try first | exact leafDraw (by kernel_rfl) | exact Leaf.mk trivial | (refine Leaf.mk ?_; omega) | (refine Leaf.mk ?_; unfold maxLen; omega)
    · refine Leaf.mk ⟨j + 1, ?_, by omega, by omega⟩
      rw [flat_at (by omega)]; rfl
    · rw [List.take_of_length_le (by omega)]; exact Leaf.mk (ret1 rfl)
  · refine LoopVC.weak [(.slot 6, .nil 38 StT)] (fun j : Nat => [(27, .i .i64 j)]) (fun j => [(0, .arr 38 StT (xs.take j).flatten)]) (fun j => j ≤ xs.length) (fun j => xs.length - j) 0 (Ev.mk ?_)
    (conv => whnf)
    refine ⟨Leaf.mk rfl, Leaf.mk ?_, ?_⟩
    · omega
    intro j hj
    have hle := flat_le (xs := xs) j
    have hge := fun h => flat_get (xs := xs) (i := j) h
    repeat' (first | ((with_reducible refine Ev.mk ?_); conv => whnf) | (with_reducible refine And.intro ?_ ?_) | (intro h))
    all_goals (try simp only [decide_eq_true_eq, decide_eq_false_iff_not, beq_iff_eq, bne_iff_ne, beq_eq_false_iff_ne, bne_eq_false_iff_eq, Int.toNat_natCast, ge_iff_le, gt_iff_lt, Bool.not_eq_true', Bool.not_eq_false', Int.not_lt, Int.not_le, ne_eq] at *)
    all_goals (try dsimp only [Ty.den, Ty.dflt, StT] at *)
    all_goals (try simp only [eq4, ne4, eq3, ne3, eq2, ne2, Prod.eta, List.length_cons, List.length_nil, List.length_append, Nat.zero_add] at *)
    all_goals (try simp (disch := omega) only [wrap64] at *)
    all_goals try first | exact leafDraw (by kernel_rfl) | exact Leaf.mk trivial | (refine Leaf.mk ?_; omega) | (refine Leaf.mk ?_; unfold maxLen; omega)
    · refine Leaf.mk ⟨j + 1, ?_, by omega, by omega⟩
      rw [flat_at (by omega)]; rfl
    · rw [List.take_of_length_le (by omega)]; exact Leaf.mk (ret1 rfl)
def sLJoin : PSpec := ⟨[.st SsT, .st SsT], [⟨true, [.d SsT]⟩], fun x => List.length x.1 ≤ 100000 ∧ List.length x.2.1 ≤ 100000, fun x => (((x.1 ++ x.2.1 : List Stk), ()), ())⟩
theorem fLJoin : FnOk Tryz.prog 35 := ⟨_, Tryz.func35, by decide, rfl⟩
theorem pLJoin : PSound Tryz.prog 35 sLJoin := by
  refine psound (T := tab) (S := (spOf [(102, sConcatT.spec (lsOf []))])) (keep := k35) (by kernel_rfl) tabOk (spCons (pOk pConcatT fConcatT (by decide) lsNil) spNil) (by kernel_rfl) Tryz.func35 (by kernel_rfl) (by decide) fun xs hg hp => ?_
  obtain ⟨a, b, ⟨⟩⟩ := xs
  change List Stk at a b
  change a.length ≤ 100000 ∧ b.length ≤ 100000 at hp
  clear hg
  show vfun tab _ k35 Tryz.f35 [.agg [.sl StT a], .agg [.sl StT b]] [] _
  refine Ev.out ?_
  repeat' (first | ((with_reducible refine Ev.mk ?_); conv => whnf) | (with_reducible refine And.intro ?_ ?_) | (intro h))
  all_goals (try simp only [decide_eq_true_eq, decide_eq_false_iff_not, beq_iff_eq, bne_iff_ne, beq_eq_false_iff_ne, bne_eq_false_iff_eq, Int.toNat_natCast, ge_iff_le, gt_iff_lt, Bool.not_eq_true', Bool.not_eq_false', Int.not_lt, Int.not_le, ne_eq] at *)
  all_goals (try dsimp only [Ty.den, Ty.dflt, StT] at *)
  all_goals (try simp only [eq4, ne4, eq3, ne3, eq2, ne2, Prod.eta, List.length_cons, List.length_nil, List.length_append, Nat.zero_add] at *)
  all_goals (try simp (disch := omega) only [wrap64] at *)
  all_goals try first | exact leafDraw (by kernel_rfl) | exact Leaf.mk trivial | (refine Leaf.mk ?_; omega) | (refine Leaf.mk ?_; unfold maxLen; omega)
  · refine Leaf.mk (show List.length [a, b] ≤ 1000 ∧ ([a, b] : List (List Stk)).flatten.length ≤ 1000000 from ?_)
    simp only [List.flatten_cons, List.flatten_nil, List.append_nil, List.length_append, List.length_cons, List.length_nil]; omega
  · refine Leaf.mk (ret1 (show ([a, b] : List (List Stk)).flatten = a ++ b from ?_))
    simp
theorem fEqF : FnOk Tryz.prog 90 := ⟨_, Tryz.func90, by decide, rfl⟩
noncomputable def iEqF : Eng.Spec := inl tab (spOf [(91, sSSame.spec (lsOf []))]) k90 Tryz.f90
theorem pEqF : SpecOk Tryz.prog 90 iEqF := inl_ok tabOk (spCons (pOk pSSame fSSame (by decide) lsNil) spNil) (by kernel_rfl) Tryz.func90 (by kernel_rfl)
def sLSame : PSpec := ⟨[.st SsT, .st SsT], [⟨false, [.d .bool]⟩], fun x => List.length x.1 ≤ 100000, fun x => ((decide ((x.1 : List Stk) = x.2.1), ()), ())⟩
theorem fLSame : FnOk Tryz.prog 28 := ⟨_, Tryz.func28, by decide, rfl⟩
theorem pLSame : PSound Tryz.prog 28 sLSame := by
  refine psound (T := tab) (S := (spOf [(90, iEqF), (91, sSSame.spec (lsOf []))])) (keep := k28) (by kernel_rfl) tabOk (spCons (.inl ⟨pEqF, fEqF⟩) (spCons (pOk pSSame fSSame (by decide) lsNil) spNil)) (by kernel_rfl) Tryz.func28 (by kernel_rfl) (by decide) fun xs hg hp => ?_
  obtain ⟨a, b, ⟨⟩⟩ := xs
  change List Stk at a b
  change a.length ≤ 100000 at hp
  clear hg
  show vfun tab _ k28 Tryz.f28 [.agg [.sl StT a], .agg [.sl StT b]] [] _
  refine Ev.out ?_
  repeat' (first | ((with_reducible refine Ev.mk ?_); conv => whnf) | (with_reducible refine And.intro ?_ ?_) | (intro h))
  all_goals (try simp only [decide_eq_true_eq, decide_eq_false_iff_not, beq_iff_eq, bne_iff_ne, beq_eq_false_iff_ne, bne_eq_false_iff_eq, Int.toNat_natCast, ge_iff_le, gt_iff_lt, Bool.not_eq_true', Bool.not_eq_false', Int.not_lt, Int.not_le, ne_eq] at *)
  all_goals (try dsimp only [Ty.den, Ty.dflt, StT] at *)
  all_goals (try simp only [eq4, ne4, eq3, ne3, eq2, ne2, Prod.eta, List.length_cons, List.length_nil, List.length_append, Nat.zero_add] at *)
  all_goals (try simp (disch := omega) only [wrap64] at *)
  all_goals try first | exact leafDraw (by kernel_rfl) | exact Leaf.mk trivial | (refine Leaf.mk ?_; omega) | (refine Leaf.mk ?_; unfold maxLen; omega)
  · refine Leaf.mk (ret1 (show false = decide (a = b) from ?_))
    rw [eq_comm, decide_eq_false_iff_not]; intro hc; exact h (by rw [hc])
  refine LoopVC.on (fun i : Nat => [(17, .i .i64 i)]) (fun _ => []) (fun i => i ≤ a.length ∧ a.take i = b.take i) (fun i => a.length - i) 0 rfl ⟨by omega, by simp⟩ ?_
  intro i ⟨hi, he⟩
  repeat' (first | ((with_reducible refine Ev.mk ?_); conv => whnf) | (with_reducible refine And.intro ?_ ?_) | (intro h))
  all_goals (try simp only [decide_eq_true_eq, decide_eq_false_iff_not, beq_iff_eq, bne_iff_ne, beq_eq_false_iff_ne, bne_eq_false_iff_eq, Int.toNat_natCast, ge_iff_le, gt_iff_lt, Bool.not_eq_true', Bool.not_eq_false', Int.not_lt, Int.not_le, ne_eq] at *)
  all_goals (try dsimp only [Ty.den, Ty.dflt, StT] at *)
  all_goals (try simp only [eq4, ne4, eq3, ne3, eq2, ne2, Prod.eta, List.length_cons, List.length_nil, List.length_append, Nat.zero_add] at *)
  all_goals (try simp (disch := omega) only [wrap64] at *)
  all_goals try first | exact leafDraw (by kernel_rfl) | exact Leaf.mk trivial | (refine Leaf.mk ?_; omega) | (refine Leaf.mk ?_; unfold maxLen; omega)
  all_goals first
    | exact Leaf.mk (ret1 (show false = decide (a = b) by rw [eq_comm, decide_eq_false_iff_not]; exact same_not stk0 (of_decide_eq_false (show decide (a.getD i stk0 = b.getD i stk0) = false from ‹_›))))
    | exact Leaf.mk ⟨i + 1, rfl, ⟨by omega, same_step stk0 (by omega) he (by omega) (of_decide_eq_true (show decide (a.getD i stk0 = b.getD i stk0) = true from ‹_›))⟩, by omega⟩
    | exact Leaf.mk (ret1 (show true = decide (a = b) by rw [eq_comm, decide_eq_true_eq]; exact same_end (by omega) he (by omega)))
    | skip
end Go.Proofs.YtkmfjlfejdoehaaGreat
